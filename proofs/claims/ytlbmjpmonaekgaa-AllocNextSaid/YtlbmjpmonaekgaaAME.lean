/- Elements of arguments; lists within blocks of one's own. (and what follows from it) -/
import Derived.Test.YtlbmjpmonaekgaaAMD
import Derived.SizedLaws
import Derived.KernelRfl
import Derived.Lib.Overlaps
import Derived.Laws.Externs
import Derived.Laws.AppendOwn
import Derived.RangeFuncLeaves
import Derived.RangeFuncRecord
namespace Go.Proofs.YtlbmjpmonaekgaaAM
/- Elements of arguments; lists within blocks of one's own. -/
section
open Go Go.RowKit Go.ChangeShapes Go.WideShapes Go.ChangeAt Go.Joins Go.Deep
set_option linter.unusedVariables false
set_option linter.unusedSimpArgs false

section
variable {H : Type} {α β : Type} {enc0 : TypeId × Value → H} {P : Program} {W : World} {held : Bool}
theorem opens_map {t : TypeId} {R : Rep0 α} {S : Rep0 β} (f : α → β) (h : Opens enc0 P W held t R) (hm : ∀ x h n ac, R x h n ac → S (f x) h n ac) : Opens enc0 P W held t S := by
  intro cs hr ρ a hin hsome
  obtain ⟨x, ac, ρ', a', h1, h2, h3⟩ := h cs hr ρ a hin hsome
  exact ⟨f x, ac, ρ', a', hm _ _ _ _ h1, h2, h3⟩
/-- The element at a place. -/
theorem SliceR.elem {R : Rep0 α} {z : Nat} {xs : List α} {h : List (Nat × Blk)} {n : Nat} {v : Value} (hr : SliceR R z xs h n [v]) {i : Nat} {x : α} (hx : xs[i]? = some x) :
    ∃ q fl l, v = .slice (some ⟨q, 0, none⟩) xs.length xs.length ∧ q < n ∧ look q h = some (.cells fl false) ∧ l.length = z ∧ i * z + z ≤ fl.length ∧ (∀ j, j < z → fl[i * z + j]? = l[j]?) ∧ (fl.drop (i * z)).take z = l ∧ R x h n l := by
  rcases hr with ⟨_, rfl⟩ | ⟨q, acs, e, hq, hqn, h1, h2, h3⟩
  · simp at hx
  · cases e
    obtain ⟨hi, _⟩ := List.getElem?_eq_some_iff.1 hx
    have hia : acs[i]? = some acs[i] := List.getElem?_eq_getElem (by omega)
    have hl : acs[i].length = z := h2 _ (List.getElem_mem _)
    have hfl := flatten_len h2
    have hle : i * z + z ≤ acs.length * z := by rw [← Nat.succ_mul]; exact Nat.mul_le_mul_right z (by omega)
    have hat : ∀ j, j < z → (List.flatten acs)[i * z + j]? = acs[i][j]? := fun j hj => by rw [flatten_at h2 hj, hia]; rfl
    refine ⟨q, List.flatten acs, acs[i], rfl, hqn, hq, hl, by omega, hat, ?_, h3 i x _ hx hia⟩
    refine List.ext_getElem? fun j => ?_
    by_cases hj : j < z
    · rw [List.getElem?_take_of_lt hj, List.getElem?_drop, hat j hj]
    · rw [List.getElem?_eq_none (by rw [List.length_take]; omega), List.getElem?_eq_none (by omega)]
/-- How long an argument may be. -/
theorem arg_len {t e : TypeId} {v : Value} {d : DataW H} {p : List MemPlace} (ht : P.underlying t = some (.slice e)) (h : DataW.Trod enc0 P W 0 (fun _ => true) held t v d p) {ρ : Ren} {K : Nat} {q : Option Addr} {n c : Nat} (hv : VRel ρ K (.slice q n c) v) : n ≤ maxLen := by
  obtain ⟨fuel, hf⟩ := h
  cases hv with
  | sliceNil n c =>
    rcases open_slice ht hf with ⟨e0, _⟩ | ⟨q, len', cap', m, n', D, Pl, e0, _⟩
    · have e1 : (Value.slice none n c).cells.toList = [.slice none n c] := rfl
      rw [e1] at e0; cases e0; exact Nat.zero_le _
    · have e1 : (Value.slice none n c).cells.toList = [.slice none n c] := rfl
      rw [e1] at e0; cases e0
  | @slice a a' _ _ c' h h1 hn hc h0 h2 =>
    have e1 : (Value.slice (some a') n c').cells.toList = [.slice (some a') n c'] := rfl
    rcases open_slice ht hf with ⟨e0, _⟩ | ⟨q, len', cap', m, n', D, Pl, e0, hb, hl, hcap, _⟩
    · rw [e1] at e0; cases e0
    · rw [e1] at e0; cases e0; omega
/-- .. by the weight of what is handed in. -/
theorem arg_sized {t e : TypeId} {v : Value} {d : DataW H} {p : List MemPlace} (ht : P.underlying t = some (.slice e)) (h : DataW.Trod enc0 P W 0 (fun _ => true) held t v d p) {ρ : Ren} {K : Nat} {q : Option Addr} {n c : Nat} (hv : VRel ρ K (.slice q n c) v)
    {ts : List TypeId} {ds : List (DataW H)} (hs : (DataW.weightsEach P ts ds).all (· ≤ reachBytes) = true) {j : Nat} (hj : ts[j]? = some t) (hd : ds[j]? = some d) (hb : 1 ≤ P.bytesOf e) : n ≤ 140737488355328 := by
  obtain ⟨fuel, hf⟩ := h
  cases hv with
  | sliceNil n c =>
    rcases open_slice ht hf with ⟨e0, _⟩ | ⟨q, len', cap', m, n', D, Pl, e0, _⟩
    · have e1 : (Value.slice none n c).cells.toList = [.slice none n c] := rfl
      rw [e1] at e0; cases e0; exact Nat.zero_le _
    · have e1 : (Value.slice none n c).cells.toList = [.slice none n c] := rfl
      rw [e1] at e0; cases e0
  | @slice a a' _ _ c' h h1 hn hc h0 h2 =>
    have e1 : (Value.slice (some a') n c').cells.toList = [.slice (some a') n c'] := rfl
    rcases open_slice ht hf with ⟨e0, _⟩ | ⟨q, len', cap', m, n', D, Pl, e0, hb', hl, hcap, hm, hx, _⟩
    · rw [e1] at e0; cases e0
    · rw [e1] at e0; cases e0
      cases hx
      have h1 := sized_slice hs hj hd ht
      have h2 := reachBytes_lt
      rw [List.length_map, List.length_range] at h1
      have h3 := Nat.mul_le_mul_left (n + ((List.range (m - n)).map fun j => D (n + j)).length) hb
      omega
theorem SliceR.len {R : Rep0 α} {z : Nat} {xs : List α} {h : List (Nat × Blk)} {n : Nat} {v : Value} (hr : SliceR R z xs h n [v]) : ∃ p c, v = .slice p xs.length c := by
  rcases hr with ⟨e, rfl⟩ | ⟨q, acs, e, _⟩
  · cases e; exact ⟨none, 0, rfl⟩
  · cases e; exact ⟨_, _, rfl⟩
end
end
/- The rules, bundled. -/
section
open Go Go.RowKit
set_option linter.unusedVariables false
abbrev WB := (And.intro (And.intro (And.intro (And.intro (And.intro (And.intro (And.intro @code_seq (And.intro @code_region @code_ret)) (And.intro @code_cond (And.intro @code_block @code_exit))) (And.intro (And.intro @code_skip (And.intro @code_label @onNormal_normal)) (And.intro @onNormal_ret (And.intro @onNormal_exit @onExit_normal)))) (And.intro (And.intro (And.intro @onExit_ret (And.intro @onExit_self @onExit_other)) (And.intro @dsts_nil (And.intro @dsts_cons @WL_nil))) (And.intro (And.intro @WL_plain (And.intro @WL_none @WL_guard)) (And.intro (And.intro @WL_gnone @op_move) (And.intro @op_assign @op_bin))))) (And.intro (And.intro (And.intro (And.intro @op_pick (And.intro @op_un @op_call)) (And.intro @op_min2 (And.intro @op_max2 @op_field))) (And.intro (And.intro @op_slice (And.intro @op_makeFunc @op_extract)) (And.intro @op_index (And.intro @op_indexAddr @un_not)))) (And.intro (And.intro (And.intro @un_neg (And.intro @eval_tmp @eval_int)) (And.intro @eval_bool (And.intro @eval_str @eval_func))) (And.intro (And.intro @eval_nilFunc (And.intro @eval_nilIface @eval_nilPtr)) (And.intro (And.intro @eval_nilMap @eval_nilSlice) (And.intro @eval_const @lit_str)))))) (And.intro (And.intro (And.intro (And.intro (And.intro @WVal_some (And.intro @WIf_true @WIf_false)) (And.intro @WGuard_tt (And.intro @WGuard_tf @WGuard_ft))) (And.intro (And.intro @WGuard_ff (And.intro @WGuard_n @bin_add)) (And.intro @bin_sub (And.intro @bin_mul @bin_lss)))) (And.intro (And.intro (And.intro @bin_leq (And.intro @bin_gtr @bin_geq)) (And.intro @bin_eql (And.intro @bin_neq @bin_quo))) (And.intro (And.intro @bin_rem (And.intro @bin_str @str_eql)) (And.intro (And.intro @str_neq @str_lss) (And.intro @str_leq @str_gtr))))) (And.intro (And.intro (And.intro (And.intro @str_geq (And.intro @str_add @mkStr_size)) (And.intro @pick_true (And.intro @pick_false @List.length_cons.{0}))) (And.intro (And.intro @List.length_nil.{0} (And.intro @List.cons_append.{0} @List.nil_append.{0})) (And.intro (And.intro @List.append_nil.{0} @getT_zero) (And.intro @getT_succ @putV_zero)))) (And.intro (And.intro (And.intro @putV_succ (And.intro @dget_zero @dget_succ)) (And.intro @yielded_at (And.intro @boolAt_some @boolAt_none))) (And.intro (And.intro @asBool_bool (And.intro @asBool_undef @Int.toNat_natCast)) (And.intro (And.intro @Nat.add_assoc @evals_nil) (And.intro @evals_cons @callee_func))))))) (And.intro (And.intro (And.intro (And.intro (And.intro (And.intro @callee_yield (And.intro @enter_call @enter_round)) (And.intro @Option.bind_some.{0, 0} (And.intro @Option.map_some.{0, 0} @WRet_ret))) (And.intro (And.intro @WRet_normal (And.intro @unwind_nil @results_nil)) (And.intro @results_tmp (And.intro @leave_flat @flat_int)))) (And.intro (And.intro (And.intro @flat_bool (And.intro @flat_str @flat_float)) (And.intro @flat_agg (And.intro @flatN_int @flatN_bool))) (And.intro (And.intro @flatN_str (And.intro @flatN_float @flatN_agg)) (And.intro (And.intro @List.all_cons.{0} @List.all_nil.{0}) (And.intro @Bool.and_true @Bool.true_and))))) (And.intro (And.intro (And.intro (And.intro @Bool.and_self (And.intro @extract_at @evalO_none)) (And.intro @evalO_some (And.intro @parts_nil @parts_cons))) (And.intro (And.intro @op_build (And.intro @makeFunc_some @min_int)) (And.intro (And.intro @max_int @lenV_str) (And.intro @lenV_slice @one_nil)))) (And.intro (And.intro (And.intro @one_one (And.intro @one_two @one_three)) (And.intro @decide_true (And.intro @decide_false @Bool.not_true))) (And.intro (And.intro @Bool.not_false (And.intro @op_nilCheck @nilCheck_ptr)) (And.intro (And.intro @nilCheck_func @fieldAddr_ptr) (And.intro @op_box @op_alloc)))))) (And.intro (And.intro (And.intro (And.intro (And.intro @op_load (And.intro @op_store @loadP_ptr)) (And.intro @storeP_ptr (And.intro @cells_int @cells_bool))) (And.intro (And.intro @cells_str (And.intro @cells_float @cells_agg)) (And.intro @cells_slice (And.intro @cells_ptr @cells_map)))) (And.intro (And.intro (And.intro @cells_func (And.intro @cells_nilFunc @get_mk)) (And.intro @new_mk (And.intro @look_self @strBytes_str))) (And.intro (And.intro @readBytes_nil (And.intro @op_makeSlice @op_append)) (And.intro (And.intro @op_copy @op_buildSlice) (And.intro @cellsAt_cells @cellAt_cells))))) (And.intro (And.intro (And.intro (And.intro @look_miss (And.intro @write_own @drop_own)) (And.intro @put_self (And.intro @put_miss @look_wput_ne))) (And.intro (And.intro @look_wkill_ne (And.intro @look_wput_self @unwind_cons)) (And.intro (And.intro @unwindG_none @kill_self) (And.intro @kill_miss @storeC_ok)))) (And.intro (And.intro (And.intro @results_cell (And.intro @take_all @drop_all)) (And.intro @List.take_succ_cons.{0} (And.intro @List.drop_succ_cons.{0} @List.take_zero.{0}))) (And.intro (And.intro @List.drop_zero.{0} (And.intro @Nat.mul_one @Nat.zero_add)) (And.intro (And.intro @Nat.add_zero @Nat.one_mul) (And.intro @List.getElem?_cons_zero.{0} @List.getElem?_cons_succ.{0}))))))))
abbrev RB := (And.intro (And.intro (And.intro (And.intro (And.intro @note_fa (And.intro @note_nilCheck @note_move)) (And.intro (And.intro @note_assign @note_pick) (And.intro @note_bin @note_un))) (And.intro (And.intro (And.intro @note_field @note_build) (And.intro @note_slice @note_indexAddr)) (And.intro (And.intro @note_index @note_extract) (And.intro @note_box @note_alloc)))) (And.intro (And.intro (And.intro @note_buildSlice (And.intro @note_makeSlice @note_store)) (And.intro (And.intro @note_call @note_append) (And.intro @note_copy @note_len))) (And.intro (And.intro (And.intro @note_min @note_max) (And.intro @note_convI @note_load)) (And.intro (And.intro @note_ofBytes @note_toBytes) (And.intro @WR_nil @WR_plain))))) (And.intro (And.intro (And.intro (And.intro @WR_none (And.intro @WR_guard @calmP_nil)) (And.intro (And.intro @calmP_cons @memP_nil) (And.intro @memP_cons @clash_none))) (And.intro (And.intro (And.intro @clash_none' @clash_read) (And.intro @clash_work @clash_rw)) (And.intro (And.intro @clash_wr @blockOf_ptr) (And.intro @blockOf_slice @soil_none)))) (And.intro (And.intro (And.intro (And.intro @write_other @soil_own) (And.intro @lt_ok @le_no)) (And.intro (And.intro @true_and @and_true) (And.intro @Bool.or_false @Bool.false_or))) (And.intro (And.intro (And.intro @Bool.true_or @Bool.or_true) (And.intro @Bool.false_and @Bool.and_false)) (And.intro (And.intro @and_false @false_and) (And.intro @decide_false @List.contains_nil.{0}))))))
abbrev EB := (And.intro (And.intro @putV_TT @getT_TT) (And.intro @ups_at (And.intro @ea_at @getT_nil)))
abbrev FB := (And.intro (And.intro (And.intro (And.intro (And.intro @flat_int @flat_bool) (And.intro @flat_str @flat_float)) (And.intro (And.intro @flat_agg @flatN_int) (And.intro @flatN_bool @flatN_str))) (And.intro (And.intro (And.intro @flatN_float @flatN_agg) (And.intro @List.all_cons.{0} @List.all_nil.{0})) (And.intro (And.intro @Bool.and_self @Bool.and_true) (And.intro @one_int (And.intro @one_bool @one_str))))) (And.intro (And.intro (And.intro (And.intro @one_float @one_ptr) (And.intro @one_slice @one_map)) (And.intro (And.intro @u8_one @all_u8) (And.intro @cells_int (And.intro @cells_bool @cells_str)))) (And.intro (And.intro (And.intro @cells_float @cells_agg) (And.intro @cells_slice @cells_ptr)) (And.intro (And.intro @cells_map @cells_func) (And.intro @cells_nilFunc (And.intro @List.length_cons.{0} @List.length_nil.{0}))))))
abbrev LB := (And.intro (And.intro @List.length_map.{0, 0} (And.intro @List.length_replicate.{0} @List.length_append.{0})) (And.intro (And.intro @List.length_take.{0} @List.length_drop.{0}) (And.intro @List.length_cons.{0} @List.length_nil.{0})))
end
/- Calls at one memory that were reckoned before. -/
section
open Go Go.RowKit
set_option linter.unusedVariables false
set_option linter.unusedSimpArgs false

/-- What was reckoned: function, arguments, memory; answer, memory. -/
structure Fact where
  f : FuncId
  args : List Value
  a : AW
  v : Value
  b : AW
def eqON : Option Nat → Option Nat → Bool
  | none, none => true
  | some a, some b => Nat.beq a b
  | _, _ => false
def eqAd (a b : Addr) : Bool := Nat.beq a.block b.block && (Nat.beq a.off b.off && eqON a.spot b.spot)
def eqFn : Fn → Fn → Bool
  | .func f, .func g => Nat.beq f g
  | .yield f, .yield g => Nat.beq f g
  | _, _ => false
/-- Equal values: no false yes. -/
def eqM : Nat → Value → Value → Bool
  | 0, _, _ => false
  | n + 1, v, u => match v, u with
    | .bool a, .bool b => a == b
    | .int k a, .int j b => decide (k = j) && decide (a = b)
    | .float k a, .float j b => decide (k = j) && Nat.beq a b
    | .string s, .string t => eqBytes (strOf s) (strOf t)
    | .pointer none, .pointer none => true
    | .pointer (some a), .pointer (some b) => eqAd a b
    | .slice none a b, .slice none c d => Nat.beq a c && Nat.beq b d
    | .slice (some p) a b, .slice (some q) c d => eqAd p q && (Nat.beq a c && Nat.beq b d)
    | .map a, .map b => eqON a b
    | .func f x y, .func g z w => eqFn f g && (eqList (eqM n) x.toList z.toList && eqList (eqM n) y.toList w.toList)
    | .nilFunc, .nilFunc => true
    | .nilIface, .nilIface => true
    | .iface t x, .iface s y => Nat.beq t s && eqM n x y
    | .agg c, .agg d => eqList (eqM n) c.toList d.toList
    | .tuple c, .tuple d => eqList (eqM n) c.toList d.toList
    | _, _ => false
def eqEntries : List MapEntry → List MapEntry → Bool
  | [], [] => true
  | a :: x, b :: y => (eqM 6 a.key b.key && (eqM 6 a.val b.val && Nat.beq a.born b.born)) && eqEntries x y
  | _, _ => false
def eqNats : List Nat → List Nat → Bool
  | [], [] => true
  | a :: x, b :: y => Nat.beq a b && eqNats x y
  | _, _ => false
def eqBlk : Blk → Blk → Bool
  | .cells c r, .cells d s => (r == s) && eqList (eqM 8) c d
  | .obj (.map c n), .obj (.map d m) => Nat.beq n m && eqEntries c.toList d.toList
  | .obj (.deferred none), .obj (.deferred none) => true
  | .obj (.deferred (some [])), .obj (.deferred (some [])) => true
  | .obj (.mapIter m a s b), .obj (.mapIter n c t d) => eqON m n && (Nat.beq a c && (Nat.beq b d && eqNats s.toList t.toList))
  | _, _ => false
def eqHeap : List (Nat × Blk) → List (Nat × Blk) → Bool
  | [], [] => true
  | (i, a) :: x, (j, b) :: y => Nat.beq i j && (eqBlk a b && eqHeap x y)
  | _, _ => false
def eqAW (a b : AW) : Bool := Nat.beq a.next b.next && (Nat.beq a.base b.base && (eqNats a.dirty b.dirty && eqHeap a.heap b.heap))
theorem nbeq {a b : Nat} (h : Nat.beq a b = true) : a = b := Nat.eq_of_beq_eq_true h
theorem eqON_of {a b : Option Nat} (h : eqON a b = true) : a = b := by
  unfold eqON at h
  split at h
  · rfl
  · rw [nbeq h]
  · cases h
theorem eqAd_of {a b : Addr} (h : eqAd a b = true) : a = b := by
  simp only [eqAd, Bool.and_eq_true] at h
  obtain ⟨a1, a2, a3⟩ := a
  obtain ⟨b1, b2, b3⟩ := b
  have h1 := nbeq h.1
  have h2 := nbeq h.2.1
  have h3 := eqON_of h.2.2
  simp only at h1 h2 h3
  rw [h1, h2, h3]
theorem eqFn_of {a b : Fn} (h : eqFn a b = true) : a = b := by
  unfold eqFn at h
  split at h
  · rw [nbeq h]
  · rw [nbeq h]
  · cases h
theorem eqStr_of {s t : ByteArray} (h : eqBytes (strOf s) (strOf t) = true) : s = t := by
  have := eqBytes_of h
  obtain ⟨⟨s⟩⟩ := s
  obtain ⟨⟨t⟩⟩ := t
  simp only [strOf] at this
  subst this; rfl
theorem eqM_of : ∀ n v u, eqM n v u = true → v = u := by
  intro n
  induction n with
  | zero => intro v u h; cases h
  | succ n ih =>
    intro v u h
    unfold eqM at h
    split at h
    · simpa using h
    · simp only [Bool.and_eq_true, decide_eq_true_eq] at h
      rw [h.1, h.2]
    · simp only [Bool.and_eq_true, decide_eq_true_eq] at h
      rw [h.1, nbeq h.2]
    · rw [eqStr_of h]
    · rfl
    · rw [eqAd_of h]
    · simp only [Bool.and_eq_true] at h
      rw [nbeq h.1, nbeq h.2]
    · simp only [Bool.and_eq_true] at h
      rw [eqAd_of h.1, nbeq h.2.1, nbeq h.2.2]
    · rw [eqON_of h]
    · simp only [Bool.and_eq_true] at h
      rw [eqFn_of h.1, Array.toList_inj.1 (eqList_of ih h.2.1), Array.toList_inj.1 (eqList_of ih h.2.2)]
    · rfl
    · rfl
    · simp only [Bool.and_eq_true] at h
      rw [nbeq h.1, ih _ _ h.2]
    · rw [Array.toList_inj.1 (eqList_of ih h)]
    · rw [Array.toList_inj.1 (eqList_of ih h)]
    · cases h
theorem eqEntries_of : ∀ {l m : List MapEntry}, eqEntries l m = true → l = m
  | [], [], _ => rfl
  | [], _ :: _, q => by cases q
  | _ :: _, [], q => by cases q
  | ⟨a1, a2, a3⟩ :: x, ⟨b1, b2, b3⟩ :: y, q => by
    simp only [eqEntries, Bool.and_eq_true] at q
    rw [eqM_of _ _ _ q.1.1, eqM_of _ _ _ q.1.2.1, nbeq q.1.2.2, eqEntries_of q.2]
theorem eqNats_of : ∀ {l m : List Nat}, eqNats l m = true → l = m
  | [], [], _ => rfl
  | [], _ :: _, q => by cases q
  | _ :: _, [], q => by cases q
  | a :: x, b :: y, q => by
    simp only [eqNats, Bool.and_eq_true] at q
    rw [nbeq q.1, eqNats_of q.2]
theorem eqBlk_of {a b : Blk} (h : eqBlk a b = true) : a = b := by
  unfold eqBlk at h
  split at h
  · simp only [Bool.and_eq_true, beq_iff_eq] at h
    rw [h.1, eqList_of (eqM_of 8) h.2]
  · simp only [Bool.and_eq_true] at h
    rw [nbeq h.1, Array.toList_inj.1 (eqEntries_of h.2)]
  · rfl
  · rfl
  · simp only [Bool.and_eq_true] at h
    rw [eqON_of h.1, nbeq h.2.1, nbeq h.2.2.1, Array.toList_inj.1 (eqNats_of h.2.2.2)]
  · cases h
theorem eqHeap_of : ∀ {l m : List (Nat × Blk)}, eqHeap l m = true → l = m
  | [], [], _ => rfl
  | [], _ :: _, q => by cases q
  | _ :: _, [], q => by cases q
  | (i, a) :: x, (j, b) :: y, q => by
    simp only [eqHeap, Bool.and_eq_true] at q
    rw [nbeq q.1, eqBlk_of q.2.1, eqHeap_of q.2.2]
theorem eqAW_of {a b : AW} (h : eqAW a b = true) : a = b := by
  simp only [eqAW, Bool.and_eq_true] at h
  obtain ⟨n1, h1, b1, d1⟩ := a
  obtain ⟨n2, h2, b2, d2⟩ := b
  have e1 := nbeq h.1
  have e2 := nbeq h.2.1
  have e3 := eqNats_of h.2.2.1
  have e4 := eqHeap_of h.2.2.2
  simp only at e1 e2 e3 e4
  rw [e1, e2, e3, e4]
def findF (f : FuncId) (args : List Value) (a : AW) : List Fact → Option (Value × AW)
  | [] => none
  | k :: r => if Nat.beq k.f f then (if eqList (eqM 8) k.args args then (if eqAW k.a a then some (k.v, k.b) else findF f args a r) else findF f args a r) else findF f args a r
def facts (l : List Fact) : Gives := fun f => some fun args a => findF f args.toList a l
def Fact.Holds (P : Program) (k : Fact) : Prop :=
  Evo k.a k.b ∧ ∀ ρ w args', WRel ρ k.a w → LRel ρ k.a.next k.args args'.toList → CallTo P k.f args' w fun v' w' => ∃ ρ', Step ρ k.a.next w ρ' k.b w' ∧ VRel ρ' k.b.next k.v v'
theorem findF_of {f : FuncId} {args : List Value} {a : AW} {r : Value × AW} : ∀ {l : List Fact}, findF f args a l = some r → ∃ k ∈ l, k.f = f ∧ k.args = args ∧ k.a = a ∧ (k.v, k.b) = r
  | [], h => by cases h
  | k :: l, h => by
    have go : findF f args a l = some r → ∃ k' ∈ k :: l, k'.f = f ∧ k'.args = args ∧ k'.a = a ∧ (k'.v, k'.b) = r := fun h => by
      obtain ⟨k', h1, h2⟩ := findF_of h
      exact ⟨k', by simp [h1], h2⟩
    unfold findF at h
    split at h
    · rename_i hf
      split at h
      · rename_i he
        split at h
        · rename_i hw
          cases h
          exact ⟨k, by simp, nbeq hf, eqList_of (eqM_of 8) he, eqAW_of hw, rfl⟩
        · exact go h
      · exact go h
    · exact go h
section
variable {P : Program}
/-- All of a list's facts hold. -/
def AllF (P : Program) (l : List Fact) : Prop := ∀ k ∈ l, k.Holds P
theorem facts_sound {l : List Fact} (h : AllF P l) : (facts l).Sound P := by
  refine ⟨fun f g hg ρ a w args args' v a' hw ha e => ?_, fun f g hg args a v a' hb e => ?_⟩
  · cases hg
    obtain ⟨k, hk, rfl, h1, rfl, h2⟩ := findF_of e
    cases h2
    refine (h k hk).2 ρ w args' hw ?_
    rw [h1]; exact ha
  · cases hg
    obtain ⟨k, hk, rfl, h1, rfl, h2⟩ := findF_of e
    cases h2
    exact (h k hk).1
theorem fact_more (hm : P.follows .mixedOrders = true) (hn : plainNames P = true) {l : List Fact} (hl : AllF P l) {n : Nat} {f : FuncId} {args : List Value} {a b : AW} {v : Value}
    (h : (match callA P (facts l) n f args.toArray a with
      | some (u, c) => Nat.ble a.base a.next && (eqM 8 v u && eqAW b c)
      | none => false) = true) : AllF P (⟨f, args, a, v, b⟩ :: l) := by
  intro k hk
  rcases List.mem_cons.1 hk with rfl | hk
  · split at h
    · rename_i u c hc
      simp only [Bool.and_eq_true] at h
      obtain rfl := eqM_of 8 v u h.2.1
      obtain rfl := eqAW_of h.2.2
      have hb : a.base ≤ a.next := Nat.le_of_ble_eq_true h.1
      obtain ⟨ev, sim⟩ := sound hm hn (facts_sound hl) n f args.toArray a v b hc hb
      exact ⟨ev, fun ρ w args' hw ha => sim ρ w args' hw (by simpa using ha)⟩
    · cases h
  · exact hl k hk
theorem no_facts : AllF P [] := fun k hk => by cases hk
theorem closed_facts (hm : P.follows .mixedOrders = true) (hn : plainNames P = true) {l : List Fact} (hl : AllF P l) {f : FuncId} {fn : Func} (hf : P.funcs[f]? = some fn) (hb : fn.body.isSome = true) {n : Nat} {b : Bool}
    (h : tells (callA P (facts l) n f #[] empty) b = true) (w : World) : Calls P f #[] w fun e w' => e = .returned (.bool b) ∧ Below w.heap.size w w' := by
  cases hr : callA P (facts l) n f #[] empty with
  | none => rw [hr] at h; cases h
  | some r =>
    obtain ⟨v, a'⟩ := r
    rw [hr] at h
    cases v with
    | bool c =>
      have : c = b := by simpa [tells] using h
      subst this
      exact closed_calls hm hn (facts_sound hl) hf hb rfl hr rfl w
    | _ => cases h
end
end
/- Lists, wherever they lie: read, cut, put behind lists of one's own. -/
section
open Go Go.RowKit
set_option linter.unusedVariables false
set_option linter.unusedSimpArgs false

section
variable {α : Type} {E : Program} {G : Gives}
/-- A list that is read: somewhere in a block. -/
def RV (enc : α → List Value) (z : Nat) (h : List (Nat × Blk)) (n : Nat) (v : Value) (xs : List α) : Prop :=
  (v = .slice none 0 0 ∧ xs = []) ∨ ∃ b o sp cap rw c, v = .slice (some ⟨b, o, sp⟩) xs.length cap ∧ look b h = some (.cells c rw) ∧ b < n ∧ o + xs.length * z ≤ c.length ∧ (c.drop o).take (xs.length * z) = xs.flatMap enc ∧ (sp = none ∨ sp = some 0 ∨ sp = some (z + 1)) ∧ xs.length ≤ cap
/-- A list in a block of one's own, that may grow. -/
def OwnS (enc : α → List Value) (z : Nat) (h : List (Nat × Blk)) (n q : Nat) (v : Value) (xs : List α) : Prop :=
  (v = .slice none 0 0 ∧ xs = []) ∨ ∃ sp cap c, v = .slice (some ⟨q, 0, sp⟩) xs.length cap ∧ look q h = some (.cells c true) ∧ c.take (xs.length * z) = xs.flatMap enc ∧ xs.length ≤ cap ∧ cap * z ≤ c.length ∧ (sp = some 0 ∨ sp = some (z + 1)) ∧ q < n ∧ ((∀ x, (enc x).all flat = true) → c.all flat = true)
theorem flatMap_at {enc : α → List Value} {z : Nat} (he : ∀ x, (enc x).length = z) : ∀ (xs : List α) (i : Nat) (hi : i < xs.length), ((xs.flatMap enc).drop (i * z)).take z = enc xs[i]
  | x :: xs, 0, _ => by rw [Nat.zero_mul, List.drop_zero, List.flatMap_cons, ← he x, List.take_left]; rfl
  | x :: xs, i + 1, hi => by
    rw [List.flatMap_cons, Nat.add_mul, Nat.one_mul, Nat.add_comm (i * z), ← List.drop_drop, ← he x, List.drop_left, he x, List.getElem_cons_succ]
    exact flatMap_at he xs i (by simpa using hi)
theorem RV.len {enc : α → List Value} {z h n v} {xs : List α} (hv : RV enc z h n v xs) : ∃ p c, v = .slice p xs.length c := by
  rcases hv with ⟨rfl, rfl⟩ | ⟨b, o, sp, cap, rw, c, rfl, _⟩
  · exact ⟨none, 0, rfl⟩
  · exact ⟨_, _, rfl⟩
theorem RV.keep {enc : α → List Value} {z : Nat} {h h' : List (Nat × Blk)} {n n' : Nat} {v : Value} {xs : List α} (hv : RV enc z h n v xs) (hn : n ≤ n') (hf : ∀ j, j < n → look j h' = look j h) : RV enc z h' n' v xs := by
  rcases hv with ⟨rfl, rfl⟩ | ⟨b, o, sp, cap, rw, c, rfl, hb, hl, r⟩
  · exact .inl ⟨rfl, rfl⟩
  · exact .inr ⟨_, _, _, _, _, _, rfl, by rw [hf b hl]; exact hb, by omega, r⟩
/-- Its block. -/
def blkOf (v : Value) : Option Nat := match v with
  | .slice (some p) _ _ => some p.block
  | _ => none
theorem RV.keepB {enc : α → List Value} {z : Nat} {h h' : List (Nat × Blk)} {n n' : Nat} {v : Value} {xs : List α} (hv : RV enc z h n v xs) (hn : n ≤ n') (hf : ∀ j, blkOf v = some j → look j h' = look j h) : RV enc z h' n' v xs := by
  rcases hv with ⟨rfl, rfl⟩ | ⟨b, o, sp, cap, rw, c, rfl, hb, hl, r⟩
  · exact .inl ⟨rfl, rfl⟩
  · exact .inr ⟨_, _, _, _, _, _, rfl, by rw [hf b rfl]; exact hb, by omega, r⟩
theorem ListV.rv {enc : α → List Value} {z : Nat} (he : ∀ x, (enc x).length = z) {h n v} {xs : List α} (hv : ListV enc h n v xs) (hs : ∀ b sp len cap, v = .slice (some ⟨b, 0, sp⟩) len cap → (sp = none ∨ sp = some 0 ∨ sp = some (z + 1)) ∧ len ≤ cap) : RV enc z h n v xs := by
  rcases hv with ⟨rfl, rfl⟩ | ⟨b, sp, cap, rw, rfl, hb, hl⟩
  · exact .inl ⟨rfl, rfl⟩
  · have := flatMap_len he xs
    obtain ⟨h1, h2⟩ := hs b sp _ _ rfl
    exact .inr ⟨b, 0, sp, cap, rw, _, rfl, hb, hl, by omega, by rw [List.drop_zero, ← this, List.take_length], h1, h2⟩
theorem SliceR.rv {enc : α → List Value} {Good : α → Prop} {z : Nat} {xs : List α} {h : List (Nat × Blk)} {n : Nat} {v : Value} (he : ∀ x, (enc x).length = z) (hr : SliceR (FlatR enc Good) z xs h n [v]) : RV enc z h n v xs ∧ ∀ x ∈ xs, Good x := by
  obtain ⟨h1, h2⟩ := hr.listV
  refine ⟨h1.rv he fun b sp len cap e => ?_, h2⟩
  rcases hr with ⟨e1, _⟩ | ⟨q, acs, e1, _⟩
  · rw [List.singleton_inj] at e1
    rw [e1] at e; cases e
  · rw [List.singleton_inj] at e1
    rw [e1] at e; cases e
    exact ⟨.inl rfl, Nat.le_refl _⟩
theorem OwnS.rv {enc : α → List Value} {z : Nat} {h : List (Nat × Blk)} {q n : Nat} {v : Value} {xs : List α} (hv : OwnS enc z h n q v xs) : RV enc z h n v xs := by
  rcases hv with ⟨rfl, rfl⟩ | ⟨sp, cap, c, rfl, hb, ht, h1, h2, h3, hq, _⟩
  · exact .inl ⟨rfl, rfl⟩
  · have := Nat.mul_le_mul_right z h1
    exact .inr ⟨q, 0, sp, cap, true, c, rfl, hb, hq, by omega, by rw [List.drop_zero]; exact ht, .inr h3, h1⟩
theorem OwnS.nil {enc : α → List Value} {z : Nat} {h : List (Nat × Blk)} {n q : Nat} : OwnS enc z h n q (.slice none 0 0) ([] : List α) := .inl ⟨rfl, rfl⟩
theorem OwnS.made {enc : α → List Value} {z : Nat} {h : List (Nat × Blk)} {n q : Nat} (hb : look q h = some (.cells [] true)) (hq : q < n) : OwnS enc z h n q (.slice (some ⟨q, 0, some 0⟩) 0 0) ([] : List α) :=
  .inr ⟨some 0, 0, [], rfl, hb, by simp, Nat.le_refl _, by simp, .inl rfl, hq, fun _ => rfl⟩
theorem OwnS.len {enc : α → List Value} {z h n q v} {xs : List α} (hv : OwnS enc z h n q v xs) : ∃ p c, v = .slice p xs.length c := by
  rcases hv with ⟨rfl, rfl⟩ | ⟨sp, cap, c, rfl, _⟩
  · exact ⟨none, 0, rfl⟩
  · exact ⟨_, _, rfl⟩
theorem OwnS.keep {enc : α → List Value} {z : Nat} {h h' : List (Nat × Blk)} {n n' q : Nat} {v : Value} {xs : List α} (hv : OwnS enc z h n q v xs) (hn : n ≤ n') (hh : q < n → look q h' = look q h) : OwnS enc z h' n' q v xs := by
  rcases hv with hv | ⟨sp, cap, c, e, hb, r1, r2, r3, r4, r5, r6⟩
  · exact .inl hv
  · exact .inr ⟨sp, cap, c, e, by rw [hh r5]; exact hb, r1, r2, r3, r4, by omega, r6⟩
/-- The element at a place. -/
theorem RV.at {enc : α → List Value} {z : Nat} (he : ∀ x, (enc x).length = z) {h : List (Nat × Blk)} {n : Nat} {p : Option Addr} {cp : Nat} {xs : List α} (hv : RV enc z h n (.slice p xs.length cp) xs) {i : Nat} (hi : i < xs.length) :
    ∃ b o sp rw c, p = some ⟨b, o, sp⟩ ∧ look b h = some (.cells c rw) ∧ b < n ∧ o + i * z + z ≤ c.length ∧ (c.drop (o + i * z)).take z = enc xs[i] ∧ ∀ k, k < z → c[o + i * z + k]? = (enc xs[i])[k]? := by
  rcases hv with ⟨e, rfl⟩ | ⟨b, o, sp, cap, rw, c, e, hb, hl, hc, ht, _⟩
  · simp at hi
  · cases e
    have h1 : i * z + z ≤ xs.length * z := by
      have := Nat.mul_le_mul_right z (show i + 1 ≤ xs.length from hi)
      rw [Nat.add_mul, Nat.one_mul] at this; exact this
    have h2 : (c.drop (o + i * z)).take z = enc xs[i] := by
      rw [← flatMap_at he xs i hi, ← ht, List.drop_take, List.take_take, List.drop_drop, Nat.min_eq_left (by omega)]
    refine ⟨b, o, sp, rw, c, rfl, hb, hl, by omega, h2, fun k hk => ?_⟩
    rw [← h2, List.getElem?_take_of_lt hk, List.getElem?_drop]
/-- A slice of a slice. -/
theorem slice_at {ty e : TypeId} {z : Nat} (hu : E.underlying ty = some (.slice e)) (hz : typeSize E e = some z) {p : Addr} {len cap : Nat} (hsp : p.spot = none ∨ p.spot = some 0 ∨ p.spot = some (z + 1)) {lo hi : Option Value} {l r m : Nat} (hb : boundsA len cap lo hi none = some (l, r, m)) :
    sliceA E ty (.slice (some p) len cap) lo hi none = some (.slice (some ⟨p.block, if p.spot = some 0 ∧ m = l then p.off else p.off + l * z, p.spot⟩) (r - l) (m - l)) := by
  have hc : ¬ (p.spot ≠ some 0 ∧ p.spot ≠ none ∧ p.spot ≠ some (z + 1)) := by
    rintro ⟨h1, h2, h3⟩
    rcases hsp with h | h | h <;> contradiction
  simp only [sliceA, hu, hz, Option.isSome_none, hb, Option.map_some, Bool.false_eq_true, false_or, if_false, true_and]
  rw [if_neg hc]
theorem slice_nil {ty e : TypeId} {z : Nat} (hu : E.underlying ty = some (.slice e)) (hz : typeSize E e = some z) {len cap : Nat} {lo hi : Option Value} {l r m : Nat} (hb : boundsA len cap lo hi none = some (l, r, m)) :
    sliceA E ty (.slice none len cap) lo hi none = some (.slice none (r - l) (m - l)) := by
  simp only [sliceA, hu, hz, hb, Option.map_some]
theorem RV.part {enc : α → List Value} {z : Nat} (he : ∀ x, (enc x).length = z) {ty e : TypeId} (hu : E.underlying ty = some (.slice e)) (hz : typeSize E e = some z) {h : List (Nat × Blk)} {n : Nat} {v : Value} {xs : List α} (hv : RV enc z h n v xs) {lo hi : Option Value} {l r : Nat} (hlr : l ≤ r) (hr : r ≤ xs.length)
    (hb : ∀ cap, xs.length ≤ cap → boundsA xs.length cap lo hi none = some (l, r, cap)) : ∃ v', sliceA E ty v lo hi none = some v' ∧ RV enc z h n v' ((xs.take r).drop l) ∧ (∀ j, blkOf v' = some j → blkOf v = some j) := by
  have hlen : ((xs.take r).drop l).length = r - l := by rw [List.length_drop, List.length_take]; omega
  rcases hv with ⟨rfl, rfl⟩ | ⟨b, o, sp, cap, rw, c, rfl, hb', hl, hc, ht, hsp, hcap⟩
  · refine ⟨_, slice_nil hu hz (hb 0 (Nat.le_refl _)), .inl ⟨?_, by simp⟩, fun j hj => by cases hj⟩
    simp at hr
    have : r = 0 := hr
    simp [this]
  · refine ⟨_, slice_at hu hz hsp (hb cap hcap), .inr ⟨b, _, sp, cap - l, rw, c, by rw [hlen], hb', hl, ?_, ?_, hsp, by omega⟩, fun j hj => hj⟩
    · rw [hlen]
      have h1 : r * z ≤ xs.length * z := Nat.mul_le_mul_right z hr
      have h2 : l * z ≤ r * z := Nat.mul_le_mul_right z hlr
      rw [Nat.sub_mul]
      simp only
      split <;> omega
    · rw [hlen]
      simp only
      have hall := flatMap_len he xs
      have hd : ∀ k ≤ xs.length, (xs.flatMap enc).drop (k * z) = (xs.drop k).flatMap enc := by
        intro k hk
        have e1 : xs = xs.take k ++ xs.drop k := (List.take_append_drop k xs).symm
        have e2 : ((xs.take k).flatMap enc).length = k * z := by rw [flatMap_len he, List.length_take, Nat.min_eq_left hk]
        conv => lhs; rw [e1, List.flatMap_append, ← e2, List.drop_left]
      have hsub : r - l = 0 ∨ ¬ (sp = some 0 ∧ cap = l) := by
        by_cases h0 : r - l = 0
        · exact .inl h0
        · right; rintro ⟨_, h2⟩; omega
      rcases hsub with h0 | h0
      · rw [h0, Nat.zero_mul, List.take_zero]
        have : (xs.take r).drop l = [] := List.eq_nil_of_length_eq_zero (by rw [hlen]; exact h0)
        rw [this]; rfl
      · rw [if_neg h0]
        have h1 : r * z ≤ xs.length * z := Nat.mul_le_mul_right z hr
        have h2 : l * z ≤ r * z := Nat.mul_le_mul_right z hlr
        have e3 : (c.drop (o + l * z)).take ((r - l) * z) = (((c.drop o).take (xs.length * z)).drop (l * z)).take ((r - l) * z) := by
          rw [List.drop_take, List.take_take, List.drop_drop, Nat.sub_mul, Nat.min_eq_left (by omega)]
        rw [e3, ht, hd l (by omega)]
        have e4 : (xs.take r).drop l = (xs.drop l).take (r - l) := by rw [List.drop_take]
        rw [e4]
        have e5 : ∀ (ys : List α) k, k ≤ ys.length → (ys.flatMap enc).take (k * z) = (ys.take k).flatMap enc := by
          intro ys k hk
          have e1 : ys = ys.take k ++ ys.drop k := (List.take_append_drop k ys).symm
          have e2 : ((ys.take k).flatMap enc).length = k * z := by rw [flatMap_len he, List.length_take, Nat.min_eq_left hk]
          conv => lhs; rw [e1, List.flatMap_append, ← e2, List.take_left]
        exact e5 _ _ (by rw [List.length_drop]; omega)
theorem bnd_lo {k : IntKind} {i : Int} {len cap : Nat} (h0 : 0 ≤ i) (h1 : i ≤ len) : boundsA len cap (some (.int k i)) none none = some (i.toNat, len, cap) := by
  simp [boundsA, boundA, h0, h1]
theorem bnd_hi {k : IntKind} {i : Int} {len cap : Nat} (h0 : 0 ≤ i) (h1 : i ≤ cap) : boundsA len cap none (some (.int k i)) none = some (0, i.toNat, cap) := by
  simp [boundsA, boundA, h0, h1]
theorem bnd_both {k k' : IntKind} {i j : Int} {len cap : Nat} (h0 : 0 ≤ i) (h1 : i ≤ j) (h2 : j ≤ cap) : boundsA len cap (some (.int k i)) (some (.int k' j)) none = some (i.toNat, j.toNat, cap) := by
  have h4 : 0 ≤ j := by omega
  have h5 : i ≤ (j.toNat : Int) := by rw [Int.toNat_of_nonneg h4]; exact h1
  have e1 : boundA (.int k' j) cap = some j.toNat := by simp only [boundA]; rw [if_pos ⟨h4, h2⟩]
  have e2 : boundA (.int k i) j.toNat = some i.toNat := by simp only [boundA]; rw [if_pos ⟨h0, h5⟩]
  simp only [boundsA, e1, e2, Option.map_some]
theorem RV.lo {enc : α → List Value} {z : Nat} (he : ∀ x, (enc x).length = z) {ty e : TypeId} (hu : E.underlying ty = some (.slice e)) (hz : typeSize E e = some z) {h : List (Nat × Blk)} {n : Nat} {v : Value} {xs : List α} (hv : RV enc z h n v xs) {k : IntKind} {i : Int} (h0 : 0 ≤ i) (h1 : i ≤ xs.length) :
    ∃ v', sliceA E ty v (some (.int k i)) none none = some v' ∧ RV enc z h n v' (xs.drop i.toNat) ∧ (∀ j, blkOf v' = some j → blkOf v = some j) := by
  obtain ⟨v', e1, e2, e3⟩ := hv.part he hu hz (l := i.toNat) (r := xs.length) (lo := some (.int k i)) (hi := none) (by omega) (Nat.le_refl _) fun cap hc => bnd_lo h0 h1
  exact ⟨v', e1, by rw [List.take_length] at e2; exact e2, e3⟩
theorem RV.hi {enc : α → List Value} {z : Nat} (he : ∀ x, (enc x).length = z) {ty e : TypeId} (hu : E.underlying ty = some (.slice e)) (hz : typeSize E e = some z) {h : List (Nat × Blk)} {n : Nat} {v : Value} {xs : List α} (hv : RV enc z h n v xs) {k : IntKind} {i : Int} (h0 : 0 ≤ i) (h1 : i ≤ xs.length) :
    ∃ v', sliceA E ty v none (some (.int k i)) none = some v' ∧ RV enc z h n v' (xs.take i.toNat) ∧ (∀ j, blkOf v' = some j → blkOf v = some j) := by
  obtain ⟨v', e1, e2, e3⟩ := hv.part he hu hz (l := 0) (r := i.toNat) (lo := none) (hi := some (.int k i)) (by omega) (by omega) fun cap hc => bnd_hi h0 (by omega)
  exact ⟨v', e1, by rw [List.drop_zero] at e2; exact e2, e3⟩
theorem RV.both {enc : α → List Value} {z : Nat} (he : ∀ x, (enc x).length = z) {ty e : TypeId} (hu : E.underlying ty = some (.slice e)) (hz : typeSize E e = some z) {h : List (Nat × Blk)} {n : Nat} {v : Value} {xs : List α} (hv : RV enc z h n v xs) {k k' : IntKind} {i j : Int} (h0 : 0 ≤ i) (h1 : i ≤ j) (h2 : j ≤ xs.length) :
    ∃ v', sliceA E ty v (some (.int k i)) (some (.int k' j)) none = some v' ∧ RV enc z h n v' ((xs.take j.toNat).drop i.toNat) ∧ (∀ j, blkOf v' = some j → blkOf v = some j) :=
  hv.part he hu hz (l := i.toNat) (r := j.toNat) (lo := some (.int k i)) (hi := some (.int k' j)) (by omega) (by omega) fun cap hc => bnd_both h0 h1 (by omega)
theorem allOne {enc : α → List Value} (ho1 : ∀ x, (enc x).all Value.oneCell' = true) (l : List α) : (l.flatMap enc).all Value.oneCell' = true := by
  rw [List.all_eq_true]
  intro u hu
  obtain ⟨x, _, hx⟩ := List.mem_flatMap.1 hu
  exact List.all_eq_true.1 (ho1 x) u hx
theorem allFlat {enc : α → List Value} (hf : ∀ x, (enc x).all flat = true) (l : List α) : (l.flatMap enc).all flat = true := by
  rw [List.all_eq_true]
  intro u hu
  obtain ⟨x, _, hx⟩ := List.mem_flatMap.1 hu
  exact List.all_eq_true.1 (hf x) u hx
theorem RV.cells {enc : α → List Value} {z : Nat} {h : List (Nat × Blk)} {n n' bs : Nat} {d : List Nat} {v : Value} {xs : List α} (hv : RV enc z h n v xs) : lenA v = some xs.length ∧ sliceCells z v ⟨n', h, bs, d⟩ = some (xs.flatMap enc) := by
  rcases hv with ⟨rfl, rfl⟩ | ⟨b, o, sp, cap, rw, c, rfl, hb, hl, hc, ht, _⟩
  · exact ⟨rfl, rfl⟩
  · refine ⟨rfl, ?_⟩
    rw [sliceCells_at (p := ⟨b, o, sp⟩) (by rw [get_mk]; exact hb) hc, ht]
/-- What an append within the room there is answers. -/
theorem append_fit {t0 t1 : TypeId} {z : Nat} (hk : appOk E t0 t1 z = true) {a : AW} {x : Value} {n : Nat} {new : List Value} (hn : lenA x = some n) (hx : sliceCells z x a = some new) (hnl : new.length = n * z) (ho : new.all Value.oneCell' = true) {p : Addr} {len cap : Nat} (hc : len + n ≤ cap) {c : List Value} (hg : a.get p.block = some (.cells c true)) (hl : p.off + (len + n) * z ≤ c.length) :
    builtinA E .append #[t0, t1] [.slice (some p) len cap, x] a = some (.slice (some p) (len + n) cap, a.write p.block (.cells (c.take (p.off + len * z) ++ (new ++ c.drop (p.off + len * z + new.length))) true)) := by
  unfold appOk appOkB at hk
  split at hk
  · rename_i e z' xd he hxd
    simp only [Bool.and_eq_true, beq_iff_eq] at hk
    obtain ⟨⟨⟨rfl, h1⟩, h2⟩, h3⟩ := hk
    show appendA E #[t0, t1] (.slice (some p) len cap) x a = _
    unfold appendA
    have e0 : (#[t0, t1] : Array TypeId)[0]? = some t0 := rfl
    have e1 : (#[t0, t1] : Array TypeId)[1]? = some t1 := rfl
    rw [e0, e1]
    simp only [he, hxd, hn]
    have f1 := firstA_all hn hx
    have hst : a.storeN { p with off := p.off + len * z' } new = some (a.write p.block (.cells (c.take (p.off + len * z') ++ (new ++ c.drop (p.off + len * z' + new.length))) true)) := by
      simp only [AW.storeN, hg]
      rw [if_pos ⟨by rw [hnl]; rw [Nat.add_mul] at hl; omega, ho⟩]
    cases xd with
    | int k => cases h1
    | _ => simp [f1, hc, hst]
  · cases hk
/-- A list put behind one of one's own. -/
theorem append_own {enc : α → List Value} {t0 t1 : TypeId} {z : Nat} (hk : appOk E t0 t1 z = true) (he : ∀ x, (enc x).length = z) (ho1 : ∀ x, (enc x).all Value.oneCell' = true)
    {h : List (Nat × Blk)} {n q bs m : Nat} {d : List Nat} {v x : Value} {xs ys : List α} (ho : OwnS enc z h n q v xs) (hy : RV enc z h m x ys) (hl : xs.length + ys.length ≤ 1000000) :
    ∃ v' q' n' h' d', builtinA E .append #[t0, t1] [v, x] ⟨n, h, bs, d⟩ = some (v', ⟨n', h', bs, d'⟩) ∧ OwnS enc z h' n' q' v' (xs ++ ys) ∧ n ≤ n' ∧ n' ≤ n + 1 ∧ (q' = q ∨ n ≤ q') ∧ (∀ j, j < n → j ≠ q → look j h' = look j h) ∧ (d' = d ∨ d' = soilW bs d q) := by
  have hflat := flatMap_len he
  obtain ⟨hlen, hcells⟩ := RV.cells (n' := n) (bs := bs) (d := d) hy
  rcases ho with ⟨rfl, rfl⟩ | ⟨sp, cap, c, rfl, hb, ht, h1, h2, h3, hq, hcf⟩
  · by_cases hys : ys = []
    · subst hys
      exact ⟨_, q, n, h, d, append_none hk hlen hcells, .inl ⟨rfl, rfl⟩, Nat.le_refl _, by omega, .inl rfl, fun _ _ _ => rfl, .inl rfl⟩
    · have hpos : 0 < ys.length := List.length_pos_iff.2 hys
      refine ⟨_, n, n + 1, _, d, append_nil (cp := 0) hk hlen hcells hpos (by simpa using hl) (allOne ho1 ys), .inr ⟨some (z + 1), ys.length, ys.flatMap enc, rfl, look_self, ?_, Nat.le_refl _, ?_, .inr rfl, by omega, fun hf => allFlat hf ys⟩, by omega, by omega, .inr (Nat.le_refl _), fun j hj _ => look_miss (Nat.ne_of_lt hj), .inl rfl⟩
      · rw [List.nil_append, ← hflat ys, List.take_length]
      · rw [hflat]; exact Nat.le_refl _
  · have hxz := Nat.mul_le_mul_right z h1
    have hcl : (xs.flatMap enc).length = xs.length * z := hflat xs
    by_cases hfit : xs.length + ys.length ≤ cap
    · have hz2 := Nat.mul_le_mul_right z hfit
      rw [Nat.add_mul] at hz2
      have hap := append_fit (E := E) (a := ⟨n, h, bs, d⟩) (p := ⟨q, 0, sp⟩) hk hlen hcells (hflat ys) (allOne ho1 ys) hfit (by rw [get_mk]; exact hb) (by simp only [Nat.zero_add]; rw [Nat.add_mul]; omega)
      simp only [Nat.zero_add] at hap
      rw [write_soil] at hap
      refine ⟨_, q, n, _, _, hap, .inr ⟨sp, cap, _, by simp, by rw [look_wput_self, hb]; rfl, ?_, by rw [List.length_append]; exact hfit, ?_, h3, hq, fun hf => ?_⟩, Nat.le_refl _, by omega, .inl rfl, fun j _ hj => look_wput_ne hj, .inr rfl⟩
      · rw [ht, List.length_append, Nat.add_mul, List.flatMap_append, ← List.append_assoc, List.take_append_of_le_length (by rw [List.length_append, hflat, hflat]; exact Nat.le_refl _)]
        rw [← hflat xs, ← hflat ys, ← List.length_append, List.take_length]
      · rw [ht]
        simp only [List.length_append, List.length_drop, hflat]
        omega
      · have hc := hcf hf
        rw [ht]
        simp only [List.all_append, allFlat hf, Bool.true_and]
        rw [List.all_eq_true] at hc ⊢
        exact fun u hu => hc u (List.mem_of_mem_drop hu)
    · have hw : sliceCells z (.slice (some ⟨q, 0, sp⟩) xs.length cap) ⟨n, h, bs, d⟩ = some (xs.flatMap enc) := by
        rw [sliceCells_at (p := ⟨q, 0, sp⟩) (by rw [get_mk]; exact hb) (by simp only; omega), List.drop_zero, ht]
      have hfin : OwnS enc z ((n, Blk.cells (xs.flatMap enc ++ ys.flatMap enc) true) :: h) (n + 1) n (.slice (some ⟨n, 0, some (z + 1)⟩) (xs.length + ys.length) (xs.length + ys.length)) (xs ++ ys) := by
        refine .inr ⟨some (z + 1), _, _, by rw [List.length_append], look_self, ?_, by rw [List.length_append]; exact Nat.le_refl _, ?_, .inr rfl, Nat.lt_succ_self _, fun hf => by rw [List.all_append, allFlat hf, allFlat hf]; rfl⟩
        · rw [List.length_append, Nat.add_mul, ← hflat xs, ← hflat ys, ← List.length_append, List.take_length, List.flatMap_append]
        · rw [List.length_append, hflat, hflat, Nat.add_mul]; exact Nat.le_refl _
      rcases h3 with rfl | rfl
      · have hap := append_made (E := E) (p := ⟨q, 0, some 0⟩) hk hlen hcells rfl hw (by omega) hl (allOne ho1 ys)
        exact ⟨_, n, n + 1, _, d, hap, hfin, by omega, by omega, .inr (Nat.le_refl _), fun j hj _ => look_miss (Nat.ne_of_lt hj), .inl rfl⟩
      · have hap := append_grown (E := E) (p := ⟨q, 0, some (z + 1)⟩) hk hlen hcells rfl hw (by omega) hl (allOne ho1 ys)
        rw [drop_soil] at hap
        exact ⟨_, n, n + 1, _, _, hap, hfin.keep (Nat.le_refl _) (fun _ => by simp [look, AW.new]), by omega, by omega, .inr (Nat.le_refl _), fun j hj hq' => by
          show look j ((n, _) :: kill q h) = look j h
          rw [look_miss (Nat.ne_of_lt hj), look_wkill_ne hq'], .inr rfl⟩
/-- A text put behind bytes of one's own. -/
def encU (b : UInt8) : List Value := [u8 b]
theorem encU_len (x : UInt8) : (encU x).length = 1 := rfl
theorem encU_one (x : UInt8) : (encU x).all Value.oneCell' = true := rfl
theorem encU_flat (x : UInt8) : (encU x).all flat = true := rfl
theorem encU_map (l : List UInt8) : l.flatMap encU = l.map u8 := by
  induction l with
  | nil => rfl
  | cons b l ih => rw [List.flatMap_cons, ih]; rfl
theorem append_str {t0 t1 : TypeId} (hk : appOk E t0 t1 1 = true) {h : List (Nat × Blk)} {n q bs : Nat} {d : List Nat} {v : Value} {xs ys : List UInt8} (ho : OwnS encU 1 h n q v xs) (hl : xs.length + ys.length ≤ 1000000) :
    ∃ v' q' n' h' d', builtinA E .append #[t0, t1] [v, .string (mkStr ys)] ⟨n, h, bs, d⟩ = some (v', ⟨n', h', bs, d'⟩) ∧ OwnS encU 1 h' n' q' v' (xs ++ ys) ∧ n ≤ n' ∧ n' ≤ n + 1 ∧ (q' = q ∨ n ≤ q') ∧ (∀ j, j < n → j ≠ q → look j h' = look j h) ∧ (d' = d ∨ d' = soilW bs d q) := by
  have hflat := flatMap_len encU_len
  have hlen : lenA (.string (mkStr ys)) = some ys.length := rfl
  have hcells : sliceCells 1 (.string (mkStr ys)) ⟨n, h, bs, d⟩ = some (ys.flatMap encU) := by rw [encU_map]; rfl
  rcases ho with ⟨rfl, rfl⟩ | ⟨sp, cap, c, rfl, hb, ht, h1, h2, h3, hq, hcf⟩
  · by_cases hys : ys = []
    · subst hys
      exact ⟨_, q, n, h, d, append_none hk hlen hcells, .inl ⟨rfl, rfl⟩, Nat.le_refl _, by omega, .inl rfl, fun _ _ _ => rfl, .inl rfl⟩
    · have hpos : 0 < ys.length := List.length_pos_iff.2 hys
      refine ⟨_, n, n + 1, _, d, append_nil (cp := 0) hk hlen hcells hpos (by simpa using hl) (allOne encU_one ys), .inr ⟨some 2, ys.length, ys.flatMap encU, rfl, look_self, ?_, Nat.le_refl _, ?_, .inr rfl, by omega, fun hf => allFlat hf ys⟩, by omega, by omega, .inr (Nat.le_refl _), fun j hj _ => look_miss (Nat.ne_of_lt hj), .inl rfl⟩
      · rw [List.nil_append, ← hflat ys, List.take_length]
      · rw [hflat]; exact Nat.le_refl _
  · have hcl : (xs.flatMap encU).length = xs.length * 1 := hflat xs
    by_cases hfit : xs.length + ys.length ≤ cap
    · have hap := append_fit (E := E) (a := ⟨n, h, bs, d⟩) (p := ⟨q, 0, sp⟩) hk hlen hcells (hflat ys) (allOne encU_one ys) hfit (by rw [get_mk]; exact hb) (by simp only [Nat.zero_add]; omega)
      simp only [Nat.zero_add] at hap
      rw [write_soil] at hap
      refine ⟨_, q, n, _, _, hap, .inr ⟨sp, cap, _, by simp, by rw [look_wput_self, hb]; rfl, ?_, by rw [List.length_append]; exact hfit, ?_, h3, hq, fun hf => ?_⟩, Nat.le_refl _, by omega, .inl rfl, fun j _ hj => look_wput_ne hj, .inr rfl⟩
      · rw [ht, List.length_append, Nat.add_mul, List.flatMap_append, ← List.append_assoc, List.take_append_of_le_length (by rw [List.length_append, hflat, hflat]; exact Nat.le_refl _)]
        rw [← hflat xs, ← hflat ys, ← List.length_append, List.take_length]
      · rw [ht]
        simp only [List.length_append, List.length_drop, hflat]
        omega
      · have hc := hcf hf
        rw [ht]
        simp only [List.all_append, allFlat hf, Bool.true_and]
        rw [List.all_eq_true] at hc ⊢
        exact fun u hu => hc u (List.mem_of_mem_drop hu)
    · have hw : sliceCells 1 (.slice (some ⟨q, 0, sp⟩) xs.length cap) ⟨n, h, bs, d⟩ = some (xs.flatMap encU) := by
        rw [sliceCells_at (p := ⟨q, 0, sp⟩) (by rw [get_mk]; exact hb) (by simp only; omega), List.drop_zero, ht]
      have hfin : OwnS encU 1 ((n, Blk.cells (xs.flatMap encU ++ ys.flatMap encU) true) :: h) (n + 1) n (.slice (some ⟨n, 0, some 2⟩) (xs.length + ys.length) (xs.length + ys.length)) (xs ++ ys) := by
        refine .inr ⟨some 2, _, _, by rw [List.length_append], look_self, ?_, by rw [List.length_append]; exact Nat.le_refl _, ?_, .inr rfl, Nat.lt_succ_self _, fun hf => by rw [List.all_append, allFlat hf, allFlat hf]; rfl⟩
        · rw [List.length_append, Nat.add_mul, ← hflat xs, ← hflat ys, ← List.length_append, List.take_length, List.flatMap_append]
        · rw [List.length_append, hflat, hflat, Nat.add_mul]; exact Nat.le_refl _
      rcases h3 with rfl | rfl
      · have hap := append_made (E := E) (p := ⟨q, 0, some 0⟩) hk hlen hcells rfl hw (by omega) hl (allOne encU_one ys)
        exact ⟨_, n, n + 1, _, d, hap, hfin, by omega, by omega, .inr (Nat.le_refl _), fun j hj _ => look_miss (Nat.ne_of_lt hj), .inl rfl⟩
      · have hap := append_grown (E := E) (p := ⟨q, 0, some 2⟩) hk hlen hcells rfl hw (by omega) hl (allOne encU_one ys)
        rw [drop_soil] at hap
        exact ⟨_, n, n + 1, _, _, hap, hfin.keep (Nat.le_refl _) (fun _ => by simp [look, AW.new]), by omega, by omega, .inr (Nat.le_refl _), fun j hj hq' => by
          show look j ((n, _) :: kill q h) = look j h
          rw [look_miss (Nat.ne_of_lt hj), look_wkill_ne hq'], .inr rfl⟩
/-- A list of one's own that is handed back: it lies in the first new block. -/
theorem leave_own {enc : α → List Value} {z : Nat} (hf : ∀ x, (enc x).all flat = true) {h : List (Nat × Blk)} {n q bs : Nat} {v : Value} {xs : List α} {a : AW} (ho : OwnS enc z h n q v xs) (hq : a.next ≤ q) {K : Value → AW → Prop}
    (hK : ∀ v' n' h', a.next ≤ n' → n' ≤ a.next + 1 → OwnS enc z h' n' a.next v' xs → (∀ j, j < a.next → look j h' = look j a.heap) → (v' = .slice none 0 0 ↔ v = .slice none 0 0) → K v' ⟨n', h', a.base, a.dirty⟩) :
    K (oneOf (leaveA a [v] ⟨n, h, bs, []⟩).1) (leaveA a [v] ⟨n, h, bs, []⟩).2 := by
  rcases ho with ⟨rfl, rfl⟩ | ⟨sp, cap, c, rfl, hb, ht, h1, h2, h3, hqn, hcf⟩
  · rw [leave_flat rfl]
    exact hK _ a.next a.heap (Nat.le_refl _) (by omega) (.inl ⟨rfl, rfl⟩) (fun _ _ => rfl) Iff.rfl
  · rw [leave_fresh (p := ⟨q, 0, sp⟩) hq hb (hcf hf)]
    exact hK _ (a.next + 1) ((a.next, .cells c true) :: a.heap) (by omega) (Nat.le_refl _) (.inr ⟨sp, cap, c, rfl, look_self, ht, h1, h2, h3, by omega, hcf⟩) (fun j hj => look_miss (by omega)) (by simp [oneOf])
theorem leave_own2 {enc : α → List Value} {z : Nat} (hf : ∀ x, (enc x).all flat = true) {h : List (Nat × Blk)} {n q bs : Nat} {v u : Value} {xs : List α} {a : AW} (hu : flat u = true) (ho : OwnS enc z h n q v xs) (hq : a.next ≤ q) {K : Value → AW → Prop}
    (hK : ∀ v' n' h', a.next ≤ n' → n' ≤ a.next + 1 → OwnS enc z h' n' a.next v' xs → (∀ j, j < a.next → look j h' = look j a.heap) → (v' = .slice none 0 0 ↔ v = .slice none 0 0) → K (.tuple #[v', u]) ⟨n', h', a.base, a.dirty⟩) :
    K (oneOf (leaveA a [v, u] ⟨n, h, bs, []⟩).1) (leaveA a [v, u] ⟨n, h, bs, []⟩).2 := by
  rcases ho with ⟨rfl, rfl⟩ | ⟨sp, cap, c, rfl, hb, ht, h1, h2, h3, hqn, hcf⟩
  · rw [leave_flat (by rw [List.all_cons, List.all_cons, hu]; rfl)]
    exact hK _ a.next a.heap (Nat.le_refl _) (by omega) (.inl ⟨rfl, rfl⟩) (fun _ _ => rfl) Iff.rfl
  · rw [leave_fresh2 hu (p := ⟨q, 0, sp⟩) hq hb (hcf hf)]
    exact hK _ (a.next + 1) ((a.next, .cells c true) :: a.heap) (by omega) (Nat.le_refl _) (.inr ⟨sp, cap, c, rfl, look_self, ht, h1, h2, h3, by omega, hcf⟩) (fun j hj => look_miss (by omega)) (by simp [oneOf])
end
end
/- More of lists: one's own, copied, cleared; numbers as bytes; where something is first. -/
section
open Go Go.RowKit
set_option linter.unusedVariables false
set_option linter.unusedSimpArgs false

theorem RV.one {α : Type} {enc : α → List Value} {z : Nat} (he : ∀ x, (enc x).length = z) {h : List (Nat × Blk)} {n m : Nat} {x : α} {rw : Bool} (hb : look m h = some (.cells (enc x) rw)) (hm : m < n) : RV enc z h n (.slice (some ⟨m, 0, some 0⟩) 1 1) [x] :=
  .inr ⟨m, 0, some 0, 1, rw, enc x, rfl, hb, hm, by rw [he]; simp, by simp [← he x], .inr (.inl rfl), Nat.le_refl _⟩
theorem append_mine {E : Program} {α : Type} {enc : α → List Value} {t0 t1 : TypeId} {z : Nat} (hk : appOk E t0 t1 z = true) (he : ∀ x, (enc x).length = z) (ho1 : ∀ x, (enc x).all Value.oneCell' = true)
    {h : List (Nat × Blk)} {n q bs m : Nat} {d : List Nat} {v x : Value} {xs ys : List α} (ho : OwnS enc z h n q v xs) (hb : bs ≤ q) (hn : bs ≤ n) (hy : RV enc z h m x ys) (hl : xs.length + ys.length ≤ 1000000) :
    ∃ v' q' n' h', builtinA E .append #[t0, t1] [v, x] ⟨n, h, bs, d⟩ = some (v', ⟨n', h', bs, d⟩) ∧ OwnS enc z h' n' q' v' (xs ++ ys) ∧ n ≤ n' ∧ n' ≤ n + 1 ∧ bs ≤ q' ∧ (q' = q ∨ n ≤ q') ∧ (∀ j, j < n → j ≠ q → look j h' = look j h) := by
  obtain ⟨v', q', n', h', d', e, h1, h2, h3, h4, h5, h6⟩ := append_own (bs := bs) (d := d) hk he ho1 ho hy hl
  have : d' = d := by
    rcases h6 with h6 | h6
    · exact h6
    · rw [h6]; exact soilW_past hb
  subst this
  exact ⟨v', q', n', h', e, h1, h2, h3, by omega, h4, h5⟩
theorem append_mineS {E : Program} {t0 t1 : TypeId} (hk : appOk E t0 t1 1 = true)
    {h : List (Nat × Blk)} {n q bs : Nat} {d : List Nat} {v : Value} {xs ys : List UInt8} (ho : OwnS encU 1 h n q v xs) (hb : bs ≤ q) (hn : bs ≤ n) (hl : xs.length + ys.length ≤ 1000000) :
    ∃ v' q' n' h', builtinA E .append #[t0, t1] [v, .string (mkStr ys)] ⟨n, h, bs, d⟩ = some (v', ⟨n', h', bs, d⟩) ∧ OwnS encU 1 h' n' q' v' (xs ++ ys) ∧ n ≤ n' ∧ n' ≤ n + 1 ∧ bs ≤ q' ∧ (q' = q ∨ n ≤ q') ∧ (∀ j, j < n → j ≠ q → look j h' = look j h) := by
  obtain ⟨v', q', n', h', d', e, h1, h2, h3, h4, h5, h6⟩ := append_str (bs := bs) (d := d) hk ho hl
  have : d' = d := by
    rcases h6 with h6 | h6
    · exact h6
    · rw [h6]; exact soilW_past hb
  subst this
  exact ⟨v', q', n', h', e, h1, h2, h3, by omega, h4, h5⟩
/-- The byte at a place of a number. -/
def byteAt (n i : Nat) : UInt8 := UInt8.ofNat (n / 256 ^ i)
def le (n k : Nat) : List UInt8 := (List.range k).map (byteAt n)
theorem le_len (n k : Nat) : (le n k).length = k := by simp [le]
theorem le_succ (n k : Nat) : le n (k + 1) = le n k ++ [byteAt n k] := by simp [le, List.range_succ]
theorem byte_shr (n i : Nat) (hi : i < 8) : IntKind.wrap .u8 (Int.fdiv (n : Int) (2 ^ (min (8 * (i : Int)).toNat IntKind.u64.bits))) = (byteAt n i).toNat := by
  have e1 : min (8 * (i : Int)).toNat IntKind.u64.bits = 8 * i := by show min (8 * (i : Int)).toNat 64 = 8 * i; omega
  have e2 : (2 : Int) ^ (8 * i) = ((256 ^ i : Nat) : Int) := by rw [show (256 : Nat) = 2 ^ 8 from rfl, ← Nat.pow_mul]; simp
  rw [e1, e2]
  show Int.fdiv (n : Int) ((256 ^ i : Nat) : Int) % 256 = _
  rw [Int.fdiv_eq_ediv_of_nonneg _ (Int.natCast_nonneg _)]
  unfold byteAt
  rw [UInt8.toNat_ofNat']
  have : ((n : Int) / ((256 ^ i : Nat) : Int)) = ((n / 256 ^ i : Nat) : Int) := by simp
  rw [this]
  omega
theorem copy_rv {E : Program} {α : Type} {enc : α → List Value} {t0 t1 e : TypeId} {z : Nat} (hel : elemCells E t0 = some (e, z)) (he : ∀ x, (enc x).length = z) (ho1 : ∀ x, (enc x).all Value.oneCell' = true) {h : List (Nat × Blk)} {n m bs : Nat} {d : List Nat} {p : Addr} {len cp : Nat} {c : List Value} (hb : look p.block h = some (.cells c true))
    {x : Value} {ys : List α} (hy : RV enc z h m x ys) (hle : ys.length ≤ len) (hlp : p.off + len * z ≤ c.length) :
    builtinA E .copy #[t0, t1] [.slice (some p) len cp, x] ⟨n, h, bs, d⟩ = some (.int .i64 ys.length, ⟨n, putAt p.block (.cells (c.take p.off ++ (ys.flatMap enc ++ c.drop (p.off + ys.length * z))) true) h, bs, soilW bs d p.block⟩) := by
  obtain ⟨hlen, hcells⟩ := RV.cells (n' := n) (bs := bs) (d := d) hy
  have hfl := flatMap_len he ys
  show copyA E #[t0, t1] (.slice (some p) len cp) x ⟨n, h, bs, d⟩ = _
  unfold copyA
  have e0 : (#[t0, t1] : Array TypeId)[0]? = some t0 := rfl
  rw [e0]
  simp only [hel, hlen]
  have hmin : Nat.min ys.length len = ys.length := Nat.min_eq_left hle
  rw [hmin, firstA_all hlen hcells]
  have h1 : ys.length * z ≤ len * z := Nat.mul_le_mul_right z hle
  have hst : AW.storeN ⟨n, h, bs, d⟩ p (ys.flatMap enc) = some (AW.write ⟨n, h, bs, d⟩ p.block (.cells (c.take p.off ++ (ys.flatMap enc ++ c.drop (p.off + ys.length * z))) true)) := by
    simp only [AW.storeN, get_mk, hb]
    rw [if_pos ⟨by rw [hfl]; omega, allOne ho1 ys⟩, hfl]
  simp only [hst, write_soil]
def zerosTo (l : List UInt8) (n : Nat) : List UInt8 := l ++ List.replicate (n - l.length) 0
/-- The first place at which something holds, or the length. -/
def fidx {α : Type} (p : α → Bool) : List α → Nat
  | [] => 0
  | x :: l => if p x = true then 0 else fidx p l + 1
theorem fidx_of {α : Type} {p : α → Bool} : ∀ {l : List α} {i : Nat}, i ≤ l.length → (∀ j (hj : j < l.length), j < i → p l[j] = false) → (∀ hi : i < l.length, p l[i] = true) → fidx p l = i
  | [], i, h, _, _ => by simp at h; simp [fidx, h]
  | x :: l, 0, _, _, h => by have := h (by simp); simp at this; simp [fidx, this]
  | x :: l, i + 1, h, h1, h2 => by
    have h0 := h1 0 (by simp) (by omega)
    simp at h0
    rw [fidx, if_neg (by simp [h0]), fidx_of (l := l) (i := i) (by simpa using h) (fun j hj hji => by have := h1 (j + 1) (by simpa using hj) (by omega); rwa [List.getElem_cons_succ] at this) (fun hi => by have := h2 (by simpa using hi); rwa [List.getElem_cons_succ] at this)]
theorem fidx_le {α : Type} {p : α → Bool} : ∀ (l : List α), fidx p l ≤ l.length
  | [] => by simp [fidx]
  | x :: l => by unfold fidx; split; · omega
                 · have := fidx_le (p := p) l; simp; omega
theorem fidx_at {α : Type} {p : α → Bool} : ∀ {l : List α} (h : fidx p l < l.length), p l[fidx p l] = true
  | [], h => by simp at h
  | x :: l, h => by
    by_cases hp : p x = true
    · have : fidx p (x :: l) = 0 := by rw [fidx, if_pos hp]
      simp only [this]; simpa using hp
    · have e : fidx p (x :: l) = fidx p l + 1 := by rw [fidx, if_neg hp]
      have h' : fidx p l < l.length := by rw [e] at h; simpa using h
      have := fidx_at h'
      simp only [e]; simpa using this
theorem fidx_before {α : Type} {p : α → Bool} : ∀ {l : List α} {j : Nat} (h : j < l.length), j < fidx p l → p l[j] = false
  | x :: l, j, h, hj => by
    by_cases hp : p x = true
    · rw [fidx, if_pos hp] at hj; omega
    · rw [fidx, if_neg hp] at hj
      cases j with
      | zero => simpa using hp
      | succ j => simpa using fidx_before (l := l) (by simpa using h) (by omega)
theorem eql_some {E : Program} {t e : TypeId} {x : Operand} {c : Value} {p : Addr} {n m : Nat} (hu : E.underlying t = some (.slice e)) : binA E .eql t x (.const c) (.slice (some p) n m) (.slice none 0 0) = some (.bool false) := by
  have h1 : flat (.slice (some p) n m) = false := rfl
  rw [binA_eq rfl]; simp [binA0, h1, hu, nilEq, isConstO]
theorem slice3 {E : Program} {ty e : TypeId} {z : Nat} (hu : E.underlying ty = some (.slice e)) (hz : typeSize E e = some z) {p : Addr} {len cap : Nat} {k k' k'' : IntKind} {i j m : Int} (h0 : 0 ≤ i) (h1 : i ≤ j) (h2 : j ≤ m) (h3 : m ≤ cap) :
    ∃ v, sliceA E ty (.slice (some p) len cap) (some (.int k i)) (some (.int k' j)) (some (.int k'' m)) = some v := by
  have e1 : boundA (.int k'' m) cap = some m.toNat := by simp only [boundA]; rw [if_pos ⟨by omega, h3⟩]
  have e2 : boundA (.int k' j) m.toNat = some j.toNat := by simp only [boundA]; rw [if_pos ⟨by omega, by omega⟩]
  have e3 : boundA (.int k i) j.toNat = some i.toNat := by simp only [boundA]; rw [if_pos ⟨by omega, by omega⟩]
  have hb : boundsA len cap (some (.int k i)) (some (.int k' j)) (some (.int k'' m)) = some (i.toNat, j.toNat, m.toNat) := by simp only [boundsA, e1, e2, e3, Option.map_some]
  have : ¬ ((some (Value.int k'' m)).isSome = false ∧ p.spot ≠ some 0 ∧ p.spot ≠ none ∧ p.spot ≠ some (z + 1)) := by simp
  simp only [sliceA, hu, hz, hb, Option.map_some]
  rw [if_neg this]
  exact ⟨_, rfl⟩
theorem clear_at {E : Program} {t e : TypeId} {z : Nat} {zv : Value} (hel : elemCells E t = some (e, z)) (hz : zeroV E e = some zv) (hzz : zv.cells.size = z) (ho : zv.cells.toList.all Value.oneCell' = true) {nn bs : Nat} {h : List (Nat × Blk)} {d : List Nat} {p : Addr} {n cp : Nat} {c : List Value} (hb : look p.block h = some (.cells c true)) (hl : p.off + n * z ≤ c.length) :
    builtinA E .clear #[t] [.slice (some p) n cp] ⟨nn, h, bs, d⟩ = some (.tuple #[], ⟨nn, putAt p.block (.cells (c.take p.off ++ ((List.replicate n zv.cells.toList).flatten ++ c.drop (p.off + n * z))) true) h, bs, soilW bs d p.block⟩) := by
  have hfl : (List.replicate n zv.cells.toList).flatten.length = n * z := by rw [flat_len, ← hzz]; simp
  have e0 : (#[t] : Array TypeId)[0]? = some t := rfl
  have hall : (List.replicate n zv.cells.toList).flatten.all Value.oneCell' = true := by
    rw [List.all_eq_true] at ho ⊢
    intro u hu
    obtain ⟨l, h1, h2⟩ := List.mem_flatten.1 hu
    rw [List.mem_replicate] at h1
    exact ho u (h1.2 ▸ h2)
  have hst : AW.storeN ⟨nn, h, bs, d⟩ p (List.replicate n zv.cells.toList).flatten = some (AW.write ⟨nn, h, bs, d⟩ p.block (.cells (c.take p.off ++ ((List.replicate n zv.cells.toList).flatten ++ c.drop (p.off + n * z))) true)) := by
    simp only [AW.storeN, get_mk, hb]
    rw [if_pos ⟨by rw [hfl]; omega, hall⟩, hfl]
  simp only [builtinA, e0, Option.bind_some, hel, hz, hzz, if_true, hst, write_soil]
theorem soilW_soilW {bs q : Nat} {d : List Nat} : soilW bs (soilW bs d q) q = soilW bs d q := by
  unfold soilW
  split
  · split
    · rename_i h; simp only [h, if_true]
    · simp
  · rfl
theorem eraseIdx_flat {α : Type} {enc : α → List Value} (l : List α) (i : Nat) : (l.eraseIdx i).flatMap enc = (l.take i).flatMap enc ++ (l.drop (i + 1)).flatMap enc := by
  rw [List.eraseIdx_eq_take_drop_succ, List.flatMap_append]
theorem soil_back {A bs q : Nat} {d' : List Nat} (h : d' = [] ∨ d' = soilW bs [] q) (hq : A ≤ q) : soilAll [] A d' = [] := by
  rcases h with rfl | rfl
  · rfl
  · unfold soilW
    split
    · have : ¬ q < A := by omega
      simp [soilAll, this]
    · rfl
theorem leave_soiled {before : AW} {vs : List Value} {n h bs q} {d : List Nat} : leaveA before vs ⟨n, h, bs, q :: d⟩ = (vs, ⟨n, h, before.base, soilAll before.dirty before.base (q :: d)⟩) := by
  simp only [leaveA, List.isEmpty_cons, Bool.false_eq_true, if_false]
/-- The number that bytes tell. -/
def leVal : List UInt8 → Nat
  | [] => 0
  | b :: r => b.toNat + 256 * leVal r
theorem leVal_append (l r : List UInt8) : leVal (l ++ r) = leVal l + 256 ^ l.length * leVal r := by
  induction l with
  | nil => simp [leVal]
  | cons b l ih =>
    have e : leVal (b :: l ++ r) = b.toNat + 256 * leVal (l ++ r) := rfl
    rw [e, ih, leVal, List.length_cons, Nat.pow_succ, Nat.mul_add, Nat.mul_comm (256 ^ l.length) 256, Nat.mul_assoc]
    omega
theorem leVal_lt (l : List UInt8) : leVal l < 256 ^ l.length := by
  induction l with
  | nil => simp [leVal]
  | cons b l ih =>
    have := b.toNat_lt
    rw [leVal, List.length_cons, Nat.pow_succ]
    omega
theorem leVal_le (N : Nat) : ∀ k, leVal (le N k) = N % 256 ^ k
  | 0 => by simp [le, leVal, Nat.mod_one]
  | k + 1 => by
    rw [le_succ, leVal_append, leVal_le N k, le_len]
    have e : leVal [byteAt N k] = N / 256 ^ k % 256 := by
      show (byteAt N k).toNat + 256 * 0 = _
      unfold byteAt
      rw [UInt8.toNat_ofNat']
      omega
    rw [e, Nat.pow_succ, Nat.mod_mul]
theorem or_step (acc b i : Nat) (hi : i < 8) (ha : acc < 256 ^ i) (hb : b < 256) :
    IntKind.wrap .u64 ((BitVec.ofInt IntKind.u64.bits (acc : Int) ||| BitVec.ofInt IntKind.u64.bits (IntKind.wrap .u64 ((b : Int) * 2 ^ (min (8 * (i : Int)).toNat IntKind.u64.bits)))).toNat : Int) = ((acc + 256 ^ i * b : Nat) : Int) := by
  have e1 : min (8 * (i : Int)).toNat IntKind.u64.bits = 8 * i := by show min (8 * (i : Int)).toNat 64 = 8 * i; omega
  have e2 : (2 : Int) ^ (8 * i) = ((256 ^ i : Nat) : Int) := by rw [show (256 : Nat) = 2 ^ 8 from rfl, ← Nat.pow_mul]; simp
  have hp : 256 ^ i * 256 ≤ 2 ^ 64 := by
    have : 256 ^ (i + 1) ≤ 256 ^ 8 := Nat.pow_le_pow_right (by decide) (by omega)
    rw [Nat.pow_succ] at this
    exact this
  have hm : 256 ^ i * b + 256 ^ i ≤ 2 ^ 64 := by
    have : 256 ^ i * (b + 1) ≤ 256 ^ i * 256 := Nat.mul_le_mul_left _ (by omega)
    rw [Nat.mul_add, Nat.mul_one] at this
    omega
  rw [e1, e2]
  have e3 : IntKind.wrap .u64 ((b : Int) * ((256 ^ i : Nat) : Int)) = ((256 ^ i * b : Nat) : Int) := by
    rw [show (b : Int) * ((256 ^ i : Nat) : Int) = ((256 ^ i * b : Nat) : Int) by rw [Nat.mul_comm]; simp]
    exact wrapu64 (by omega) (by omega)
  rw [e3]
  have e4 : ∀ x : Nat, x < 2 ^ 64 → (BitVec.ofInt IntKind.u64.bits (x : Int)).toNat = x := fun x hx => by
    show (BitVec.ofInt 64 (x : Int)).toNat = x
    rw [BitVec.ofInt_natCast, BitVec.toNat_ofNat, Nat.mod_eq_of_lt hx]
  rw [BitVec.toNat_or, e4 _ (by omega), e4 _ (by omega)]
  have e5 : acc ||| 256 ^ i * b = acc + 256 ^ i * b := by
    have h8 : 256 ^ i = 2 ^ (8 * i) := by rw [show (256 : Nat) = 2 ^ 8 from rfl, ← Nat.pow_mul]
    rw [h8] at ha ⊢
    rw [Nat.or_comm, ← Nat.two_pow_add_eq_or_of_lt ha, Nat.add_comm]
  rw [e5]
  exact wrapu64 (by omega) (by omega)
theorem eql_ptr {E : Program} {t e : TypeId} {x : Operand} {c : Value} {p : Addr} (hu : E.underlying t = some (.pointer e)) : binA E .eql t x (.const c) (.pointer (some p)) (.pointer none) = some (.bool false) := by
  have h1 : flat (.pointer (some p)) = false := rfl
  rw [binA_eq rfl]; simp [binA0, h1, hu, nilEq, isConstO]
theorem leVal_take (s : List UInt8) (i : Nat) (h : i < s.length) : leVal (s.take (i + 1)) = leVal (s.take i) + 256 ^ i * (s.getD i 0).toNat := by
  rw [List.take_add_one, List.getElem?_eq_getElem h, Option.toList_some, leVal_append, List.length_take, Nat.min_eq_left (by omega)]
  have e : leVal [s[i]] = s[i].toNat := by simp [leVal]
  rw [e, List.getD_eq_getElem?_getD, List.getElem?_eq_getElem h]
  rfl
theorem le_take (N k : Nat) (r : List UInt8) : (le N k ++ r).take k = le N k := by
  have := List.take_left (l₁ := le N k) (l₂ := r)
  rwa [le_len] at this
theorem le_drop (N k : Nat) (r : List UInt8) : (le N k ++ r).drop k = r := by
  have := List.drop_left (l₁ := le N k) (l₂ := r)
  rwa [le_len] at this
theorem leave_fst {before : AW} {v : Value} {n h bs d} (hv : flat v = true) : (leaveA before [v] ⟨n, h, bs, d⟩).1 = [v] := by
  unfold leaveA
  split
  · simp [hv]
  · rfl
section
open Go.ChangeShapes Go.WideShapes Go.ChangeAt Go.Joins Go.Deep
variable {H : Type} {enc0 : TypeId × Value → H} {W : World} {held : Bool}
theorem opens_strW {P : Program} {e : TypeId} (ht : P.underlying e = some .string) : Opens enc0 P W held e (FlatR (fun x : ByteArray => [.string x]) fun x => x.size ≤ 140737488355328) :=
  opens_flat (fun _ => rfl) fun cs ⟨n, y, h, hw⟩ => by
    obtain ⟨x, hx, hy, _⟩ := DataW.trod_string ht h
    refine ⟨x, hx, ?_⟩
    have := hw x.size (by rw [hy]; simp [DataW.weights])
    have h3 : reachBytes = 0x7ffffffff000 := rfl
    omega
end
end
/- slices.Insert: what stands for it. -/
section
open Go Go.RowKit
set_option linter.unusedVariables false
set_option linter.unusedSimpArgs false

section
variable {P : Program}
/-- What stands for slices.overlaps: of two blocks, the latter one with a hole behind it. -/
def overlapsG (args : List Value) (a : AW) : Option (Value × AW) := match args with
  | [.slice (some p) n _, .slice (some q) m _] =>
    if p.block = q.block ∨ n = 0 ∨ m = 0 then none else
      match a.get p.block, a.get q.block with
      | some (.cells (_ :: _) _), some (.holey (_ :: _) _) => some (.bool false, a)
      | _, _ => none
  | _ => none
theorem run_overlaps {w : World} {tS tR e : TypeId} {size : Nat} (ht : P.underlying tS = some (.slice e)) (hz : typeSize P e = some size)
    {a b : Addr} {la ca lb cb : Nat} (hne : a.block ≠ b.block) {cA cB : Array Value} {tA tB : TypeId} {fA fB : Nat × Nat} (hsa : w.heap[a.block]? = some (.cells cA tA fA)) (hsb : w.heap[b.block]? = some (.cells cB tB fB)) (hkA : cA.size ≠ 0) (hkB : cB.size ≠ 0) (hfB : fB.2 = 0) :
    (Extern.SlicesOverlaps.overlaps #[tS, tS] #[tR] #[.slice (some a) la ca, .slice (some b) lb cb]).run P w = .ok (.bool false) w := by
  have hnb : (a.block != b.block) = true := by simpa using hne
  have hnb' : (a.block == b.block) = false := by simpa using hne
  have s1 : w.shape? a.block = some (tA, cA.size) := by simp [World.shape?, hsa]
  have s2 : w.shape? b.block = some (tB, cB.size) := by simp [World.shape?, hsb]
  have f2 : ∀ o, w.frozen? ⟨b.block, o, none⟩ = false := fun o => by simp [World.frozen?, hsb, hfB]
  have f2' : w.frozen? b = false := by simp [World.frozen?, hsb, hfB]
  change Sem.run P (α := Value) (do
    let some t := (#[tS, tS] : Array TypeId)[0]? | stuck "slices.overlaps: no parameter types"
    let .slice elem ← underlying t | stuck "slices.overlaps: slice type expected"
    let size ← sizeOf elem
    match (some a : Option Addr), (some b : Option Addr) with
    | some a, some b =>
      if la = 0 ∨ lb = 0 ∨ size = 0 then pure (Value.bool false)
      else if a.block != b.block && (← frozen a) && (← frozen b) then unsupported .addressObserved
      else do
        if a.block != b.block then do
          noView a; noView b
          if ← mayBeOne a b then return Value.bool ((← choose (.extern "sameAddr.stringBytes" 2)) == 1)
        pure (Value.bool (a.block == b.block && a.off < b.off + lb * size && b.off < a.off + la * size))
    | _, _ => pure (Value.bool false)) w = _
  by_cases h0 : la = 0 ∨ lb = 0 ∨ size = 0
  · simp [run_underlying ht, run_sizeOf hz, h0]
  · cases hcB : cB.size with
    | zero => exact absurd hcB hkB
    | succ kB =>
      cases hcA : cA.size with
      | zero => exact absurd hcA hkA
      | succ kA =>
      rw [hcB] at s2
      rw [hcA] at s1
      cases hfa : w.frozen? a <;> cases hfe : w.frozen? { block := a.block, off := kA + 1 } <;>
        simp [run_underlying ht, run_sizeOf hz, h0, hnb, hnb', frozen, noView, viewAt, mayBeOne, stringish, shape, Sem.run, s1, s2, hfa, hfe, f2, f2']
theorem overlaps_sim {f : FuncId} {fn : Func} {tS tR e : TypeId} {size : Nat} (hf : P.funcs[f]? = some fn) (hname : (fn.name == "runtime.NumGoroutine") = false) (hb : fn.body.isNone = true) (hn : Extern.findNext fn = none) (he : Extern.find fn = some (Extern.SlicesOverlaps.overlaps #[tS, tS] #[tR]))
    (ht : P.underlying tS = some (.slice e)) (hz : typeSize P e = some size) {ρ : Ren} {a : AW} {w : World} {args args' : List Value} {v : Value} {a' : AW} (hw : WRel ρ a w) (ha : LRel ρ a.next args args') (h : overlapsG args a = some (v, a')) :
    CallTo P f args'.toArray w fun v' w' => ∃ ρ', Step ρ a.next w ρ' a' w' ∧ VRel ρ' a'.next v v' := by
  unfold overlapsG at h
  split at h
  · rename_i p n c q m d
    split at h
    · cases h
    · rename_i hc
      simp only [not_or] at hc
      obtain ⟨hne, hn0, hm0⟩ := hc
      split at h
      · rename_i x cs rw0 y ds k hp hq
        cases h
        obtain ⟨I, cA, tA, fA, eI, gA, hA, _, _, _⟩ := blk_view hw (.inl ⟨_, hp⟩)
        obtain ⟨J, o, k1, k2, k3⟩ : ∃ J o, ρ q.block = some J ∧ w.heap[J.b]? = some o ∧ ORel ρ a.next J (.holey (y :: ds) k) o := by
          obtain ⟨J, eJ⟩ := hw.has _ _ hq
          obtain ⟨b', o, g1, g2, g3⟩ := hw.blk _ _ eJ
          rw [hq] at g1; cases g1
          exact ⟨J, o, eJ, g2, g3⟩
        obtain ⟨hJr, cB, tB, fB, rfl, hB, _, _, _, hfz⟩ := k3.invH
        have hblk : I.b ≠ J.b := fun hh => by
          rcases hw.inj _ _ _ _ eI k1 hh with h1 | ⟨_, h2⟩
          · exact hne h1
          · rw [hJr] at h2; cases h2
        have hkA : cA.size ≠ 0 := fun h0 => by
          obtain ⟨v', e1, _⟩ := hA 0 x rfl
          rw [Array.getElem?_eq_none (by omega)] at e1; cases e1
        have hkB : cB.size ≠ 0 := fun h0 => by
          obtain ⟨v', e1, _⟩ := hB 0 y rfl
          rw [Array.getElem?_eq_none (by omega)] at e1; cases e1
        cases ha with
        | cons h1 h2 =>
          cases h2 with
          | cons h3 h4 =>
            cases h4
            cases h1 with
            | @slice _ p' _ _ c' hK hp1 hln hcc _ _ =>
              cases h3 with
              | @slice _ q' _ _ d' hK2 hq1 hln2 hcc2 _ _ =>
                have hp2 := (hp1 I eI).resolve_left (by omega)
                have hq2 := (hq1 J k1).resolve_left (by omega)
                subst hp2 hq2
                refine .inl ⟨.bool false, w, ?_, ρ, .refl hw, .bool _⟩
                rw [run_callFunc_extern hf hname hb hn he, run_overlaps ht hz (a := ⟨I.b, p.off + I.sh, none⟩) (b := ⟨J.b, q.off + J.sh, none⟩) hblk gA k2 hkA hkB hfz]
                rfl
      · cases h
  · cases h
def insertAt (z i : Nat) (cs new : List Value) : List Value := cs.take (i * z) ++ (new ++ cs.drop (i * z))
/-- What stands for slices.Insert of one element. -/
def insertG (z : Nat) (args : List Value) (a : AW) : Option (Value × AW) := match args with
  | [.slice base n c, .int .i64 i, .slice (some q) 1 d] =>
    match a.get q.block with
    | some (.cells new true) =>
      if a.base ≤ a.next ∧ 0 ≤ i ∧ i ≤ n ∧ n ≤ 900000 ∧ q.off = 0 ∧ new.length = z ∧ new.all Value.oneCell' = true ∧ new.all flat = true then
        match base with
        | none => if n = 0 ∧ c = 0 then some (growA z 1 new a) else none
        | some p => match a.get p.block with
          | some (.cells cs true) =>
            if p.off = 0 ∧ cs.length = n * z ∧ q.block ≠ p.block ∧ cs.all Value.oneCell' = true ∧ cs.all flat = true ∧ c = n then
              if p.spot = some 0 then some (growA z (n + 1) (insertAt z i.toNat cs new) a)
              else if p.spot = some (z + 1) then some (growA z (n + 1) (insertAt z i.toNat cs new) { a.drop p.block with next := a.next + 1 }) else none
            else none
          | _ => none
      else none
    | _ => none
  | _ => none
/-- What the text of slices.Insert answers, where the room is known. -/
structure InsertWalks (P : Program) (G : Gives) (f : FuncId) (z : Nat) : Prop where
  /-- at the end, nil -/
  nil_ : ∀ (q : Nat) sp d (a : AW) new, q < a.next → a.get q = some (.cells new true) → new.length = z → new.all Value.oneCell' = true → new.all flat = true →
    WCall P G f [.slice none 0 0, .int .i64 0, .slice (some ⟨q, 0, sp⟩) 1 d] a fun v b => (v, b) = growA z 1 new a
  /-- at the end, a row that has grown -/
  grown_ : ∀ (p : Nat) n c (q : Nat) sp d (a : AW) cs new, p < a.next → q < a.next → a.get p = some (.cells cs true) → cs.length = n * z → a.get q = some (.cells new true) → new.length = z → new.all Value.oneCell' = true → new.all flat = true → q ≠ p → n ≤ 900000 → c = n →
    WCall P G f [.slice (some ⟨p, 0, some (z + 1)⟩) n c, .int .i64 n, .slice (some ⟨q, 0, sp⟩) 1 d] a fun v b => (v, b) = growA z (n + 1) (insertAt z n cs new) (a.drop p)
  /-- no room -/
  full_ : ∀ (p : Nat) n (i : Nat) (q : Nat) sp d (a : AW) cs new, p < a.next → q < a.next → a.get p = some (.cells cs true) → cs.length = n * z → a.get q = some (.cells new true) → new.length = z → new.all Value.oneCell' = true → new.all flat = true → cs.all Value.oneCell' = true → cs.all flat = true → q ≠ p → n ≤ 900000 → i ≤ n →
    WCall P G f [.slice (some ⟨p, 0, some 0⟩) n n, .int .i64 i, .slice (some ⟨q, 0, sp⟩) 1 d] a fun v b => (v, b) = growA z (n + 1) (insertAt z i cs new) a
  /-- room behind -/
  room_ : ∀ (p : Nat) n c (i : Nat) (q : Nat) sp d (a : AW) cs new, p < a.next → q < a.next → a.get p = some (.holey cs z) → cs.length = n * z → a.get q = some (.cells new true) → new.length = z → new.all Value.oneCell' = true → new.all flat = true → cs.all Value.oneCell' = true → cs.all flat = true → q ≠ p → n ≤ 900000 → i < n → n < c →
    WCall P G f [.slice (some ⟨p, 0, some 0⟩) n c, .int .i64 i, .slice (some ⟨q, 0, sp⟩) 1 d] a fun v b => v = .slice (some ⟨p, 0, some 0⟩) (n + 1) c ∧ b = { a.write p (.holey (insertAt z i cs new) 0) with next := a.next + 1 }
theorem kill_put {i : Nat} {x : Blk} : ∀ {h : List (Nat × Blk)}, kill i (putAt i x h) = kill i h
  | [] => rfl
  | (j, b) :: r => by
    by_cases hij : i = j
    · subst hij; simp [putAt, kill]
    · simp only [putAt, kill, if_neg hij, kill_put (h := r)]
theorem soil_again (a : AW) (i : Nat) : AW.soil ⟨a.next, a.heap, a.base, a.soil i⟩ i = a.soil i := by
  unfold AW.soil
  by_cases h : i < a.base
  · simp only [h, if_true]
    by_cases hc : a.dirty.contains i = true
    · simp only [hc, if_true]
    · have : i ∉ a.dirty := by simpa using hc
      simp [this]
  · simp only [h, if_false]
theorem CallTo.mono {f : FuncId} {args : Array Value} {w : World} {Q Q' : Value → World → Prop} (h : CallTo P f args w Q) (hi : ∀ v w', Q v w' → Q' v w') : CallTo P f args w Q' := by
  rcases h with ⟨v, w', e, hq⟩ | ⟨e, hc⟩
  · exact .inl ⟨v, w', e, hi _ _ hq⟩
  · exact .inr ⟨e, hc.mono fun _ _ ⟨v, e1, hq⟩ => ⟨v, e1, hi _ _ hq⟩⟩
/-- A row with a hole behind it. -/
theorem holey_rel {ρ : Ren} {a : AW} {w : World} (h : WRel ρ a w) {i k : Nat} {I : Info} {cs : List Value} (hg : a.get i = some (.cells cs true)) (e : ρ i = some I) (hz : I.fz = false) (hn : ∀ c' te fr, w.heap[I.b]? = some (.cells c' te fr) → cs.length + k + I.sh ≤ c'.size) :
    WRel ρ ⟨a.next, putAt i (.holey cs k) a.heap, a.base, a.dirty⟩ w := by
  obtain ⟨I', c', te, fr, e', g2, hc, hw, hrw, -⟩ := blk_view h (.inl ⟨_, hg⟩)
  rw [e] at e'; cases e'
  have hr : I.rw = true := hrw true hg
  obtain ⟨w1, w2, w3⟩ := hw hr
  have hl := fun j => look_put (x := .holey cs k) hg j
  refine ⟨h.falls.put i _, h.lt, ?_, ?_, h.inj⟩
  · intro j J ej
    by_cases hj : j = i
    · subst hj
      rw [e] at ej; cases ej
      exact ⟨.holey cs k, _, by simp only [AW.get, hl, if_true], g2, .holey hc (fun _ => hn c' te fr g2) hr ⟨w1, w2, w3 hz⟩⟩
    · obtain ⟨b', o', f1, f2, f3⟩ := h.blk j J ej
      exact ⟨b', o', by simp only [AW.get, hl, if_neg hj]; exact f1, f2, f3⟩
  · intro j b' ej
    by_cases hj : j = i
    · subst hj; exact ⟨I, e⟩
    · simp only [AW.get, hl, if_neg hj] at ej; exact h.has j b' ej
theorem insert_sim (hm : P.follows .mixedOrders = true) (hn : plainNames P = true) {G : Gives} (hG : G.Sound P) {f : FuncId} {z : Nat} (hW : InsertWalks P G f z) {ρ : Ren} {a : AW} {w : World} {args args' : List Value} {v : Value} {a' : AW} (hw : WRel ρ a w) (ha : LRel ρ a.next args args') (h : insertG z args a = some (v, a')) :
    CallTo P f args'.toArray w fun v' w' => ∃ ρ', Step ρ a.next w ρ' a' w' ∧ VRel ρ' a'.next v v' := by
  have use : ∀ {args args' : List Value} {a0 : AW} {w : World} {ρ : Ren} {v : Value} {b : AW}, a0.base ≤ a0.next → WRel ρ a0 w → LRel ρ a0.next args args' → WCall P G f args a0 (fun v' b' => v' = v ∧ b' = b) → CallTo P f args'.toArray w fun v' w' => ∃ ρ', Step ρ a0.next w ρ' b w' ∧ VRel ρ' b.next v v' := by
    intro args args' a0 w ρ v b hb hw ha hc
    obtain ⟨n, v', b', e, rfl, rfl⟩ := hc
    exact ((sound hm hn hG n) f args.toArray a0 v' b' e hb).2 ρ w args'.toArray hw (by simpa using ha)
  unfold insertG at h
  split at h
  · rename_i base n c i q d
    split at h
    · rename_i new hq
      split at h
      · rename_i hc
        obtain ⟨hb, hi0, hin, hnl, hqo, hnz, hno, hnf⟩ := hc
        obtain ⟨I, eI⟩ := hw.has _ _ hq
        have hqn : q.block < a.next := hw.lt _ _ eI
        obtain ⟨qb, qo, qs⟩ := q
        simp only at hqo hq hqn
        subst hqo
        split at h
        · split at h
          · rename_i hc0
            obtain ⟨rfl, rfl⟩ := hc0
            have hi : i = 0 := by omega
            subst hi
            simp only [Option.some.injEq] at h
            refine use hb hw ha (call_weaken (hW.nil_ qb qs d a new hqn hq hnz hno hnf) fun v' b' hh => ?_)
            rw [h] at hh
            exact ⟨congrArg Prod.fst hh, congrArg Prod.snd hh⟩
          · cases h
        · rename_i p
          split at h
          · rename_i cs hp
            obtain ⟨pb, po, ps⟩ := p
            simp only at hp h
            split at h
            · rename_i hc1
              obtain ⟨hpo, hcl, hqp, hco, hcf, hcn⟩ := hc1
              subst hpo
              subst hcn
              obtain ⟨J, eJ⟩ := hw.has _ _ hp
              have hpn : pb < a.next := hw.lt _ _ eJ
              obtain ⟨k, rfl⟩ : ∃ k : Nat, i = k := ⟨i.toNat, by omega⟩
              rw [Int.toNat_natCast] at h
              split at h
              · rename_i hsp
                subst hsp
                simp only [Option.some.injEq] at h
                refine use hb hw ha (call_weaken (hW.full_ pb c k qb qs d a cs new hpn hqn hp hcl hq hnz hno hnf hco hcf hqp hnl (by omega)) fun v' b' hh => ?_)
                rw [h] at hh
                exact ⟨congrArg Prod.fst hh, congrArg Prod.snd hh⟩
              · split at h
                · rename_i hsp0 hsp
                  subst hsp
                  simp only [Option.some.injEq] at h
                  have hps := step_pass hw
                  have hb1 : ({ a with next := a.next + 1 } : AW).base ≤ ({ a with next := a.next + 1 } : AW).next := Nat.le_succ_of_le hb
                  by_cases hik : k = c
                  · subst hik
                    refine CallTo.mono (use (v := v) (b := a') hb1 hps.rel (ha.mono hps.ext) (call_weaken (hW.grown_ pb k k qb qs d { a with next := a.next + 1 } cs new (Nat.lt_succ_of_lt hpn) (Nat.lt_succ_of_lt hqn) hp hcl hq hnz hno hnf hqp hnl rfl) fun v' b' hh => ?_)) fun v' w' ⟨ρ1, st, hv⟩ => ⟨ρ1, hps.trans st, hv⟩
                    rw [show growA z (k + 1) (insertAt z k cs new) (AW.drop { a with next := a.next + 1 } pb) = (v, a') from h] at hh
                    exact ⟨congrArg Prod.fst hh, congrArg Prod.snd hh⟩
                  · cases ha with
                    | cons h1 hr1 =>
                      cases hr1 with
                      | cons h2 hr2 =>
                        cases hr2 with
                        | cons h3 hr3 =>
                          cases hr3
                          cases h1 with
                          | @slice _ p' _ _ c' hK hp1 hln hcc h0 h2' =>
                            obtain ⟨g1, g2, g3⟩ := h2' z rfl J eJ
                            have hfz : J.fz = false := g3.resolve_left id
                            simp only [growA, Prod.mk.injEq] at h
                            obtain ⟨rfl, rfl⟩ := h
                            by_cases hroom : c' = c
                            · subst hroom
                              have hv1 : VRel ρ a.next (.slice (some ⟨pb, 0, some 0⟩) c' c') (.slice (some p') c' c') := .slice hK hp1 (Nat.le_refl _) (Nat.le_refl _) (fun _ => rfl) (fun z' hz' => by simp at hz')
                              have hcall := use (v := (growA z (c' + 1) (insertAt z k cs new) { a with next := a.next + 1 }).1) (b := (growA z (c' + 1) (insertAt z k cs new) { a with next := a.next + 1 }).2) hb1 hps.rel (.cons (hv1.mono hps.ext) (.cons (h2.mono hps.ext) (.cons (h3.mono hps.ext) .nil))) (call_weaken (hW.full_ pb c' k qb qs d { a with next := a.next + 1 } cs new (Nat.lt_succ_of_lt hpn) (Nat.lt_succ_of_lt hqn) hp hcl hq hnz hno hnf hco hcf hqp hnl (by omega)) fun v' b' hh => ⟨congrArg Prod.fst hh, congrArg Prod.snd hh⟩)
                              refine CallTo.mono hcall fun v' w' ⟨ρ1, st, hv⟩ => ?_
                              have st2 := step_drop st.rel pb
                              refine ⟨_, ?_, hv.mono st2.ext⟩
                              have := (hps.trans st).trans st2
                              have heq : ({ a.drop pb with next := a.next + 1 } : AW).new (.cells (insertAt z k cs new) true) = ((growA z (c' + 1) (insertAt z k cs new) { a with next := a.next + 1 }).2).drop pb := by
                                simp only [growA, AW.new, AW.drop, kill, if_neg (show ¬ pb = a.next + 1 by omega)]
                                rfl
                              exact heq ▸ this
                            · have hw2 : WRel ρ ⟨a.next, putAt pb (.holey cs z) a.heap, a.base, a.dirty⟩ w := by
                                refine holey_rel hw hp eJ hfz fun c1 te fr e1 => ?_
                                obtain ⟨I', c2, te2, fr2, e', e2, _, hw', _, _⟩ := blk_view hw (.inl ⟨_, hp⟩)
                                rw [eJ] at e'; cases e'
                                rw [e1] at e2; cases e2
                                obtain ⟨w1, _, _⟩ := hw' g1
                                have : (c + 1) * z ≤ c' * z := Nat.mul_le_mul_right _ (by omega)
                                rw [Nat.add_mul, Nat.one_mul] at this
                                rw [w1, hcl]
                                omega
                              have hv1 : VRel ρ a.next (.slice (some ⟨pb, 0, some 0⟩) c c') (.slice (some p') c c') := .slice hK hp1 hcc (Nat.le_refl _) (fun _ => rfl) (fun z' hz' => by simp at hz')
                              have hq2 : (⟨a.next, putAt pb (.holey cs z) a.heap, a.base, a.dirty⟩ : AW).get qb = some (.cells new true) := by
                                simp only [AW.get, look_put (x := .holey cs z) hp qb, if_neg hqp]; exact hq
                              have hp2 : (⟨a.next, putAt pb (.holey cs z) a.heap, a.base, a.dirty⟩ : AW).get pb = some (.holey cs z) := by
                                simp only [AW.get, look_put (x := .holey cs z) hp pb, if_true]
                              have hcall := use (a0 := ⟨a.next, putAt pb (.holey cs z) a.heap, a.base, a.dirty⟩) (v := .slice (some ⟨pb, 0, some 0⟩) (c + 1) c') (b := { AW.write ⟨a.next, putAt pb (.holey cs z) a.heap, a.base, a.dirty⟩ pb (.holey (insertAt z k cs new) 0) with next := a.next + 1 }) hb hw2 (.cons hv1 (.cons h2 (.cons h3 .nil))) (hW.room_ pb c c' k qb qs d ⟨a.next, putAt pb (.holey cs z) a.heap, a.base, a.dirty⟩ cs new hpn hqn hp2 hcl hq2 hnz hno hnf hco hcf hqp hnl (by omega) (by omega))
                              refine CallTo.mono hcall fun v' w' ⟨ρ1, st, hv⟩ => ?_
                              have hg3 : ({ AW.write ⟨a.next, putAt pb (.holey cs z) a.heap, a.base, a.dirty⟩ pb (.holey (insertAt z k cs new) 0) with next := a.next + 1 } : AW).get pb = some (.holey (insertAt z k cs new) 0) := by
                                simp only [AW.get, AW.write]
                                rw [look_put (x := .holey (insertAt z k cs new) 0) hp2 pb, if_pos rfl]
                              obtain ⟨J3, eJ3⟩ := st.rel.has _ _ hg3
                              have hJ3 := st.ext.some hpn eJ3
                              rw [eJ] at hJ3
                              cases hJ3
                              obtain ⟨b3, o3, k1, k2, k3⟩ := st.rel.blk _ _ eJ3
                              rw [hg3] at k1; cases k1
                              obtain ⟨_, c3, t3, f3, rfl, hc3, _, hs3, hf3, hz3⟩ := k3.invH
                              skip
                              have hx : Ext ρ1 (a.next + 1) (upd (upd ρ1 pb none) (a.next + 1) (some J)) (a.next + 1 + 1) := by
                                refine ⟨Nat.le_succ _, fun j hj => ?_⟩
                                rw [upd_ne _ _ (by omega)]
                                by_cases hji : j = pb
                                · subst hji; exact .inr (upd_self _ _ _)
                                · exact .inl (upd_ne _ _ hji)
                              have ho : ORel (upd (upd ρ1 pb none) (a.next + 1) (some J)) (a.next + 1 + 1) J (.cells (insertAt z k cs new) J.rw) (.cells c3 t3 f3) :=
                                .cells (fun j v e => let ⟨v', e', hv⟩ := hc3 j v e; ⟨v', e', hv.mono hx⟩) fun _ => ⟨hs3, hf3, fun _ => hz3⟩
                              rw [g1] at ho
                              have st3 := step_move st.rel eJ3 g1 (J := J) rfl g1 ho k2 rfl (fun _ _ => rfl) rfl rfl rfl
                              have heq : (({ AW.write ⟨a.next, putAt pb (.holey cs z) a.heap, a.base, a.dirty⟩ pb (.holey (insertAt z k cs new) 0) with next := a.next + 1 } : AW).drop pb).new (.cells (insertAt z k cs new) true) = ({ a.drop pb with next := a.next + 1 } : AW).new (.cells (insertAt z k cs new) true) := by
                                simp only [AW.new, AW.drop, AW.write, kill_put, AW.mk.injEq, true_and, and_true]
                                exact (soil_again ⟨a.next, putAt pb (.holey (insertAt z k cs new) 0) (putAt pb (.holey cs z) a.heap), a.base, a.dirty⟩ pb)
                              rw [heq] at st3
                              refine ⟨_, st.trans st3, ?_⟩
                              cases hv with
                              | @slice _ p1 _ _ c1 hK' hp1' hln' hcc' h0' _ =>
                                have hcc1 := h0' rfl
                                subst hcc1
                                refine .slice (Nat.lt_succ_self _) (fun I3 e3 => ?_) (Nat.le_refl _) (by omega) (fun hh => by simp at hh) fun z' hz' I3 e3 => ?_
                                · have e4 : upd (upd ρ1 pb none) (a.next + 1) (some J) (a.next + 1) = some I3 := e3
                                  rw [upd_self] at e4; cases e4
                                  exact hp1' J eJ3
                                · have e4 : upd (upd ρ1 pb none) (a.next + 1) (some J) (a.next + 1) = some I3 := e3
                                  rw [upd_self] at e4; cases e4
                                  simp only [Option.some.injEq, Nat.add_right_cancel_iff] at hz'
                                  subst hz'
                                  exact ⟨g1, g2, g3⟩
                · cases h
            · cases h
          · cases h
      · cases h
    · cases h
  · cases h
/-- slices.overlaps given. -/
def overG (fO : FuncId) (G : Gives) : Gives := fun f => if f = fO then some (fun args a => overlapsG args.toList a) else G f
/-- slices.Insert of one element given as well. -/
def insG (fI fO : FuncId) (z : Nat) (G : Gives) : Gives := fun f => if f = fI then some (fun args a => insertG z args.toList a) else overG fO G f
theorem overlaps_evo {args : List Value} {a : AW} {v : Value} {a' : AW} (h : overlapsG args a = some (v, a')) : a' = a := by
  unfold overlapsG at h
  split at h
  · split at h
    · cases h
    · split at h
      · cases h; rfl
      · cases h
  · cases h
theorem over_sound {fO : FuncId} {fn : Func} {tS tR e : TypeId} {size : Nat} (hf : P.funcs[fO]? = some fn) (hname : (fn.name == "runtime.NumGoroutine") = false) (hb : fn.body.isNone = true) (hn : Extern.findNext fn = none) (he : Extern.find fn = some (Extern.SlicesOverlaps.overlaps #[tS, tS] #[tR]))
    (ht : P.underlying tS = some (.slice e)) (hz : typeSize P e = some size) {G : Gives} (hG : G.Sound P) : (overG fO G).Sound P := by
  refine ⟨fun f g hg ρ a w args args' v a' hw ha h => ?_, fun f g hg args a v a' hb' h => ?_⟩
  · unfold overG at hg
    split at hg
    · rename_i hff
      subst hff
      cases hg
      have := overlaps_sim hf hname hb hn he ht hz hw ha h
      simpa using this
    · exact hG.sim f g hg ρ a w args args' v a' hw ha h
  · unfold overG at hg
    split at hg
    · cases hg
      rw [overlaps_evo h]; exact .refl _
    · exact hG.evo f g hg args a v a' hb' h
theorem insert_evo {z : Nat} {args : List Value} {a : AW} {v : Value} {a' : AW} (hb : a.base ≤ a.next) (h : insertG z args a = some (v, a')) : Evo a a' := by
  have key : ∀ {m : Nat} {c : List Value} {b : AW}, Evo a b → b.base ≤ b.next → growA z m c b = (v, a') → Evo a a' := by
    intro m c b he hb' hh
    simp only [growA, Prod.mk.injEq] at hh
    rw [← hh.2]
    exact he.trans (evo_new _ _ hb')
  unfold insertG at h
  split at h
  · split at h
    · split at h
      · split at h
        · split at h
          · exact key (.refl a) hb (by simpa using h)
          · cases h
        · split at h
          · split at h
            · split at h
              · exact key (.refl a) hb (by simpa using h)
              · split at h
                · have h' := Option.some.inj h
                  refine key (b := { a.drop _ with next := a.next + 1 }) ?_ ?_ h'
                  · exact (evo_drop a _).trans (b := a.drop _) ⟨rfl, Nat.le_succ a.next, fun _ h => h, fun _ _ _ => rfl⟩
                  · exact Nat.le_succ_of_le hb
                · cases h
            · cases h
          · cases h
      · cases h
    · cases h
  · cases h
theorem ins_sound (hm : P.follows .mixedOrders = true) (hn : plainNames P = true) {fI fO : FuncId} {z : Nat} {G : Gives} (hG : (overG fO G).Sound P) (hW : InsertWalks P (overG fO G) fI z) : (insG fI fO z G).Sound P := by
  refine ⟨fun f g hg ρ a w args args' v a' hw ha h => ?_, fun f g hg args a v a' hb' h => ?_⟩
  · unfold insG at hg
    split at hg
    · rename_i hff
      subst hff
      cases hg
      have := insert_sim hm hn hG hW hw ha h
      simpa using this
    · exact hG.sim f g hg ρ a w args args' v a' hw ha h
  · unfold insG at hg
    split at hg
    · cases hg
      exact insert_evo hb' h
    · exact hG.evo f g hg args a v a' hb' h
end
end
/- Calls that were reckoned, over what else stands for calls. -/
section
open Go Go.RowKit
set_option linter.unusedVariables false
set_option linter.unusedSimpArgs false

def factsOn (G : Gives) (l : List Fact) : Gives := fun f => some fun args a => match findF f args.toList a l with
  | some r => some r
  | none => given G f args a
section
variable {P : Program} {G : Gives}
theorem factsOn_sound (hG : G.Sound P) {l : List Fact} (h : AllF P l) : (factsOn G l).Sound P := by
  refine ⟨fun f g hg ρ a w args args' v a' hw ha e => ?_, fun f g hg args a v a' hb e => ?_⟩
  · cases hg
    simp only at e
    cases hf : findF f args.toList a l with
    | some r =>
      rw [hf] at e
      obtain ⟨k, hk, rfl, h1, rfl, h2⟩ := findF_of hf
      cases e
      cases h2
      refine (h k hk).2 ρ w args' hw ?_
      rw [h1]; exact ha
    | none =>
      rw [hf] at e
      simp only [given] at e
      cases hg : G f with
      | none => rw [hg] at e; cases e
      | some g => rw [hg] at e; exact hG.sim f g hg ρ a w args args' v a' hw ha e
  · cases hg
    simp only at e
    cases hf : findF f args.toList a l with
    | some r =>
      rw [hf] at e
      obtain ⟨k, hk, rfl, h1, rfl, h2⟩ := findF_of hf
      cases e
      cases h2
      exact (h k hk).1
    | none =>
      rw [hf] at e
      simp only [given] at e
      cases hg : G f with
      | none => rw [hg] at e; cases e
      | some g => rw [hg] at e; exact hG.evo f g hg args a v a' hb e
theorem fact_moreOn (hm : P.follows .mixedOrders = true) (hn : plainNames P = true) (hG : G.Sound P) {l : List Fact} (hl : AllF P l) {n : Nat} {f : FuncId} {args : List Value} {a b : AW} {v : Value}
    (h : (match callA P (factsOn G l) n f args.toArray a with
      | some (u, c) => Nat.ble a.base a.next && (eqM 8 v u && eqAW b c)
      | none => false) = true) : AllF P (⟨f, args, a, v, b⟩ :: l) := by
  intro k hk
  rcases List.mem_cons.1 hk with rfl | hk
  · split at h
    · rename_i u c hc
      simp only [Bool.and_eq_true] at h
      obtain rfl := eqM_of 8 v u h.2.1
      obtain rfl := eqAW_of h.2.2
      have hb : a.base ≤ a.next := Nat.le_of_ble_eq_true h.1
      obtain ⟨ev, sim⟩ := sound hm hn (factsOn_sound hG hl) n f args.toArray a v b hc hb
      exact ⟨ev, fun ρ w args' hw ha => sim ρ w args' hw (by simpa using ha)⟩
    · cases h
  · exact hl k hk
theorem closed_factsOn (hm : P.follows .mixedOrders = true) (hn : plainNames P = true) (hG : G.Sound P) {l : List Fact} (hl : AllF P l) {f : FuncId} {fn : Func} (hf : P.funcs[f]? = some fn) (hb : fn.body.isSome = true) (hgn : findF f [] empty l = none) (hgG : given G f #[] empty = none) {n : Nat} {b : Bool}
    (h : tells (callA P (factsOn G l) n f #[] empty) b = true) (w : World) : Calls P f #[] w fun e w' => e = .returned (.bool b) ∧ Below w.heap.size w w' := by
  cases hr : callA P (factsOn G l) n f #[] empty with
  | none => rw [hr] at h; cases h
  | some r =>
    obtain ⟨v, a'⟩ := r
    rw [hr] at h
    cases v with
    | bool c =>
      have : c = b := by simpa [tells] using h
      subst this
      exact closed_calls hm hn (factsOn_sound hG hl) hf hb rfl hr rfl w
    | _ => cases h
end
end
/- Maps: what operations on them answer, by the list of what they hold. -/
section
open Go Go.RowKit
set_option linter.unusedVariables false
set_option linter.unusedSimpArgs false
section
variable {E : Program} {G : Gives} {t : List Value} {a : AW} {K : Value → AW → Prop}
theorem op_makeMap {ty} : WOp E G (.makeMap ty none) t a K = K (.map (some a.next)) (a.new (.obj (.map #[] 0))) := by
  rw [op_make rfl]
  rfl
def lookP (E : Program) (ty : TypeId) (v u : Value) (ok : Bool) (a : AW) : Option Value := match v with
  | .map r => lookupA E ty (.map r) u ok a
  | _ => none
theorem lookP_map {ty r u ok} : lookP E ty (.map r) u ok a = lookupA E ty (.map r) u ok a := hide rfl
theorem op_lookup {ty m k ok} : WOp E G (.lookup ty m k ok) t a K = WVal (evalA t m) fun v => WVal (evalA t k) fun u => WVal (lookP E ty v u ok a) fun r => K r a := by
  rw [op_read rfl]
  simp only [readA, oper]
  cases evalA t m with
  | none => rfl
  | some v =>
    cases evalA t k with
    | none => cases v <;> rfl
    | some u =>
      cases v with
      | map r =>
        simp only [lookP, WVal]
        cases lookupA E ty (.map r) u ok a <;> rfl
      | _ => rfl
theorem op_mapUpdate {ty m k x} : WOp E G (.mapUpdate ty m k x) t a K = WVal (evalA t m) fun v => WVal (evalA t k) fun u => WVal (evalA t x) fun y => WVal (updateA E ty v u y a) fun b => K undef b := by
  rw [op_work rfl]
  simp only [workA, oper]
  cases evalA t m with
  | none => rfl
  | some v =>
    cases evalA t k with
    | none => rfl
    | some u =>
      cases evalA t x with
      | none => rfl
      | some y =>
        simp only [WVal]
        cases updateA E ty v u y a <;> rfl
end
abbrev MB := And.intro (And.intro @op_makeMap @op_lookup) (And.intro @lookP_map @op_mapUpdate)
/-- What a map holds. -/
def MapIs {κ ν : Type} (ek : κ → Value) (ev : ν → Value) (b : Option Blk) (M : List (κ × ν)) : Prop :=
  ∃ es clock, b = some (.obj (.map es clock)) ∧ es.toList.map (fun e => (e.key, e.val)) = M.map (fun p => (ek p.1, ev p.2)) ∧ (∀ e ∈ es.toList, e.born < clock) ∧ (es.toList.map (·.born)).Nodup
/-- Keys that are told apart. -/
def KeyOk {κ : Type} (P : Program) (kt : TypeId) (ek : κ → Value) [DecidableEq κ] : Prop := ∃ d, (P.underlying kt = some d) ∧ ((∃ j, d = .int j) ∨ d = .string) ∧ ∀ k k', Instr.sameNow d (ek k) (ek k') = some (decide (k = k'))
section
variable {κ ν : Type} [DecidableEq κ] {P : Program}
omit [DecidableEq κ] in
theorem beq_mkStr (k k' : List UInt8) : (mkStr k == mkStr k') = decide (k = k') := by
  have h : (mkStr k == mkStr k') = ((mkStr k).data == (mkStr k').data) := rfl
  rw [h]
  by_cases hk : k = k' <;> simp [hk, mkStr]
omit [DecidableEq κ] in
theorem key_str {kt : TypeId} (h : P.underlying kt = some .string) : KeyOk P kt (fun s : List UInt8 => .string (mkStr s)) :=
  ⟨_, h, .inr rfl, fun k k' => by
    show some (mkStr k == mkStr k') = _
    rw [beq_mkStr]⟩
omit [DecidableEq κ] in
theorem key_int {kt : TypeId} {j : IntKind} (h : P.underlying kt = some (.int j)) : KeyOk P kt (fun n : Int => .int j n) :=
  ⟨_, h, .inl ⟨j, rfl⟩, fun k k' => by
    show (if j = j then some (k == k') else none) = _
    rw [if_pos rfl]
    by_cases hk : k = k' <;> simp [hk]⟩
theorem findA_eq {kt : TypeId} {ek : κ → Value} (hk : KeyOk P kt ek) : ∃ d, ∀ k es, findA P kt (ek k) es = Instr.findNow d (ek k) es 0 ∧ ∀ k k', Instr.sameNow d (ek k) (ek k') = some (decide (k = k')) := by
  obtain ⟨d, h1, h2, h3⟩ := hk
  refine ⟨d, fun k es => ⟨?_, h3⟩⟩
  unfold findA
  rw [h1]
  rcases h2 with ⟨j, rfl⟩ | rfl <;> rfl
/-- What stands under a key. -/
def mget : List (κ × ν) → κ → Option ν
  | [], _ => none
  | (k', x) :: r, k => if k = k' then some x else mget r k
theorem find_list {d : TypeDesc} {ek : κ → Value} {ev : ν → Value} (h3 : ∀ k k', Instr.sameNow d (ek k) (ek k') = some (decide (k = k'))) (k : κ) : ∀ (es : List MapEntry) (M : List (κ × ν)) (i : Nat), es.map (fun e => (e.key, e.val)) = M.map (fun p => (ek p.1, ev p.2)) →
    Instr.findNow d (ek k) es i = some ((mget M k).map fun x => (i + M.findIdx (fun p => decide (k = p.1)), ev x))
  | [], [], _, _ => rfl
  | [], _ :: _, _, h => by simp at h
  | _ :: _, [], _, h => by simp at h
  | e :: es, (k', x) :: M, i, h => by
    simp only [List.map_cons, List.cons.injEq, Prod.mk.injEq] at h
    obtain ⟨⟨e1, e2⟩, h⟩ := h
    unfold Instr.findNow
    rw [e1, h3]
    by_cases hk : k = k'
    · subst hk
      simp [e2, List.findIdx_cons, mget]
    · simp only [hk, decide_false, List.findIdx_cons, mget, if_false]
      rw [find_list h3 k es M (i + 1) h]
      cases mget M k with
      | none => rfl
      | some y => simp; omega
/-- A map that is read. -/
theorem lookup_map {ty kt et : TypeId} {ek : κ → Value} {ev : ν → Value} (hu : P.underlying ty = some (.map kt et)) (hk : KeyOk P kt ek) {z : Value} (hz : zeroV P et = some z) {a : AW} {r : Nat} {M : List (κ × ν)} (hM : MapIs ek ev (look r a.heap) M) (k : κ) (ok : Bool) :
    lookupA P ty (.map (some r)) (ek k) ok a = some (if ok = true then .tuple #[(mget M k).elim z ev, .bool (mget M k).isSome] else (mget M k).elim z ev) := by
  obtain ⟨es, clock, hb, he, -, -⟩ := hM
  obtain ⟨d, hd⟩ := findA_eq hk
  have hg : a.get r = some (.obj (.map es clock)) := hb
  have hm : mapOf (.map (some r)) a = some es := by simp only [mapOf, hg]
  have hf := find_list (hd k []).2 k es.toList M 0 he
  unfold lookupA
  simp only [mapTypes, hu, hm, (hd k es.toList).1, hf, hz]
  cases mget M k with
  | none => cases ok <;> rfl
  | some x => cases ok <;> rfl
/-- What a list of entries becomes. -/
def setM (M : List (κ × ν)) (k : κ) (x : ν) : List (κ × ν) := match mget M k with
  | some _ => M.set (M.findIdx fun p => decide (k = p.1)) (k, x)
  | none => M ++ [(k, x)]
theorem setM_new {M : List (κ × ν)} {k : κ} {x : ν} (h : mget M k = none) : setM M k x = M ++ [(k, x)] := by unfold setM; rw [h]
omit [DecidableEq κ] in
theorem map_modify {α β : Type} (f : α → β) (g : α → α) (y : β) : ∀ (l : List α) (i : Nat), (∀ e ∈ l, f (g e) = y) → (l.modify i g).map f = (l.map f).set i y
  | [], _, _ => by simp
  | e :: l, 0, h => by simp [h e (by simp)]
  | e :: l, i + 1, h => by simp only [List.modify_succ_cons, List.map_cons, List.set_cons_succ]; rw [map_modify f g y l i fun e he => h e (by simp [he])]
omit [DecidableEq κ] in
theorem map_modify_id {α β : Type} (f : α → β) (g : α → α) : ∀ (l : List α) (i : Nat), (∀ e ∈ l, f (g e) = f e) → (l.modify i g).map f = l.map f
  | [], _, _ => by simp
  | e :: l, 0, h => by simp [h e (by simp)]
  | e :: l, i + 1, h => by simp only [List.modify_succ_cons, List.map_cons]; rw [map_modify_id f g l i fun e he => h e (by simp [he])]
/-- A map that is written. -/
theorem update_map {ty kt et : TypeId} {ek : κ → Value} {ev : ν → Value} (hu : P.underlying ty = some (.map kt et)) (hk : KeyOk P kt ek) {a : AW} {r : Nat} {M : List (κ × ν)} (hM : MapIs ek ev (look r a.heap) M) (k : κ) (x : ν) :
    ∃ b, updateA P ty (.map (some r)) (ek k) (ev x) a = some (a.write r b) ∧ MapIs ek ev (some b) (setM M k x) := by
  obtain ⟨es, clock, hb, he, hbo, hnd⟩ := hM
  obtain ⟨d, hd⟩ := findA_eq hk
  have hg : a.get r = some (.obj (.map es clock)) := hb
  have hf := find_list (hd k []).2 k es.toList M 0 he
  unfold updateA setM
  simp only [mapTypes, hu, hg, (hd k es.toList).1, hf]
  cases hl : mget M k with
  | none =>
    refine ⟨_, rfl, _, _, rfl, ?_, fun e h => ?_, ?_⟩
    · simp [he]
    · simp only [Array.toList_push, List.mem_append, List.mem_singleton] at h
      rcases h with h | rfl
      · have := hbo e h; omega
      · show clock < clock + 1; omega
    · simp only [Array.toList_push, List.map_append, List.map_cons, List.map_nil]
      rw [List.nodup_append]
      refine ⟨hnd, by simp, fun p hp q hq => ?_⟩
      simp only [List.mem_singleton] at hq
      obtain ⟨e, h1, rfl⟩ := List.mem_map.1 hp
      have := hbo e h1
      omega
  | some y =>
    refine ⟨_, rfl, _, _, rfl, ?_, fun e h => ?_, ?_⟩
    · simp only [Option.map_some, Nat.zero_add, Array.toList_modify]
      rw [map_modify (fun e : MapEntry => (e.key, e.val)) (fun e => { e with key := ek k, val := ev x }) (ek k, ev x) _ _ fun e _ => rfl, he, List.map_set]
    · simp only [Option.map_some, Nat.zero_add, Array.toList_modify] at h
      have h2 : e.born ∈ (es.toList.modify (M.findIdx fun p => decide (k = p.1)) fun e => { e with key := ek k, val := ev x }).map (·.born) := List.mem_map_of_mem h
      rw [map_modify_id (fun e : MapEntry => e.born) (fun e => { e with key := ek k, val := ev x }) _ _ fun e _ => rfl] at h2
      obtain ⟨e', h3, h4⟩ := List.mem_map.1 h2
      have := hbo e' h3
      omega
    · simp only [Option.map_some, Nat.zero_add, Array.toList_modify]
      rw [map_modify_id (fun e : MapEntry => e.born) (fun e => { e with key := ek k, val := ev x }) _ _ fun e _ => rfl]
      exact hnd
omit [DecidableEq κ] in
theorem map_new {ek : κ → Value} {ev : ν → Value} : MapIs ek ev (some (.obj (.map #[] 0))) ([] : List (κ × ν)) := ⟨_, _, rfl, rfl, fun e h => by simp at h, by simp⟩
omit [DecidableEq κ] in
theorem map_len {ek : κ → Value} {ev : ν → Value} {a : AW} {r : Nat} {M : List (κ × ν)} (hM : MapIs ek ev (look r a.heap) M) : (mapOf (.map (some r)) a).map (fun es => Value.int .i64 es.size) = some (.int .i64 M.length) := by
  obtain ⟨es, clock, hb, he, -, -⟩ := hM
  have hg : a.get r = some (.obj (.map es clock)) := hb
  have hl := congrArg List.length he
  simp only [List.length_map, Array.length_toList] at hl
  simp only [mapOf, hg, Option.map_some, hl]
end
end
/- What stands for a library function that hands back a row made out of a map's keys. -/
section
open Go Go.RowKit
set_option linter.unusedVariables false
set_option linter.unusedSimpArgs false
/-- The row of a map's keys: sv tells it out of the entries. -/
def keysG (fIt : FuncId) (sv : Array MapEntry → Nat → Option (List Value)) (args : List Value) (a : AW) : Option (Value × AW) := match args with
  | [.func (.func f) fs cs] =>
    if f = fIt ∧ fs.size = 0 then match cs.toList with
      | [.pointer (some ⟨q, o, none⟩)] => match a.get q with
        | some (.cells c true) => match c[o]? with
          | some (.map (some r)) => match a.get r with
            | some (.obj (.map es clock)) => match sv es clock with
              | some [] => some (.slice none 0 0, a)
              | some (v :: vs) => if (v :: vs).all flat = true then some (growA 1 (vs.length + 1) (v :: vs) a) else none
              | none => none
            | _ => none
          | _ => none
        | _ => none
      | _ => none
    else none
  | _ => none
section
variable {P : Program}
/-- What the library's text answers of such a call. -/
def KeysSay (P : Program) (f fIt : FuncId) (eT : TypeId) (sv : Array MapEntry → Nat → Option (List Value)) : Prop :=
  ∀ (w : World) (B s b : Nat) es clock vs, w.cell? ⟨B, s, none⟩ = some (.map (some b)) → B < w.heap.size → w.heap[b]? = some (.map es clock) → sv es clock = some vs →
    Calls P f #[.func (.func fIt) #[] #[.pointer (some ⟨B, s, none⟩)]] w fun e w' => ∃ v, e = .returned v ∧ w'.ownsRow w.heap.size eT 1 v vs.length vs ∧ (v = .slice none 0 0 ↔ vs = []) ∧ Below w.heap.size w w'
theorem keys_sim {f fIt : FuncId} {eT : TypeId} {sv : Array MapEntry → Nat → Option (List Value)} (hent : ∀ args w, (callFunc f args).run P w = .ok (.enter f args) w) (hS : KeysSay P f fIt eT sv)
    (hsv : ∀ (ρ : Ren) (K : Nat) (es es' : Array MapEntry) (clock : Nat) vs, EsRel ρ K es.toList es'.toList → sv es clock = some vs → sv es' clock = some vs)
    {ρ : Ren} {a : AW} {w : World} {args args' : List Value} {v : Value} {a' : AW} (hw : WRel ρ a w) (ha : LRel ρ a.next args args') (h : keysG fIt sv args a = some (v, a')) :
    CallTo P f args'.toArray w fun v' w' => ∃ ρ', Step ρ a.next w ρ' a' w' ∧ VRel ρ' a'.next v v' := by
  unfold keysG at h
  split at h
  · rename_i f0 fs cs
    split at h
    · rename_i hc
      obtain ⟨rfl, hfs⟩ := hc
      split at h
      · rename_i q o hcs
        split at h
        · rename_i c hq
          split at h
          · rename_i r ho
            split at h
            · rename_i es clock hr
              cases ha with
              | cons hv hrest =>
                cases hrest
                cases hv with
                | func hfn hf h1 hcl h2 =>
                  cases hfn
                  rename_i f' c'
                  have hf' : f' = #[] := Array.eq_empty_of_size_eq_zero (by omega)
                  have hcs' : cs.size = 1 := by have := congrArg List.length hcs; simpa using this
                  obtain ⟨x, rfl⟩ : ∃ x, c' = #[x] := Array.size_eq_one_iff.1 (by omega)
                  have hx := h2 0 (by omega) (by simp)
                  have hc0 : cs[0]'(by omega) = .pointer (some ⟨q, o, none⟩) := by
                    have := congrArg (·[0]?) hcs
                    simp only [Array.getElem?_toList, List.getElem?_cons_zero] at this
                    rw [Array.getElem?_eq_getElem (by omega)] at this
                    exact Option.some.inj this
                  rw [hc0] at hx
                  simp only [List.getElem_toArray, List.getElem_cons_zero] at hx
                  subst hf'
                  cases hx with
                  | ptr hk hs hp =>
                    rename_i p'
                    obtain ⟨I, cc, te, fr, eI, gI, hcI, hwI, hrwI, -⟩ := blk_view hw (.inl ⟨_, hq⟩)
                    obtain rfl := hp I eI
                    obtain ⟨m', hm1, hm2⟩ := hcI o _ ho
                    cases hm2 with
                    | map hk2 hm3 =>
                      rename_i r'
                      obtain ⟨J, oJ, k1, k2, k3⟩ : ∃ J oJ, ρ r = some J ∧ w.heap[J.b]? = some oJ ∧ ORel ρ a.next J (.obj (.map es clock)) oJ := by
                        obtain ⟨J, eJ⟩ := hw.has _ _ hr
                        obtain ⟨b', o', g1, g2, g3⟩ := hw.blk _ _ eJ
                        rw [hr] at g1; cases g1
                        exact ⟨J, o', eJ, g2, g3⟩
                      obtain rfl := hm3 J k1
                      generalize hB : Blk.obj (.map es clock) = B at k3
                      cases k3 with
                      | cells => cases hB
                      | holey => cases hB
                      | obj hoo hrJ hnJ hsJ =>
                        injection hB with hB
                        subst hB
                        cases hoo with
                        | map n hes =>
                          rename_i es'
                          have hcell : w.cell? ⟨I.b, o + I.sh, none⟩ = some (.map (some J.b)) := by
                            simp only [World.cell?, gI]
                            simpa using hm1
                          refine .inr ⟨hent _ _, ?_⟩
                          split at h
                          · rename_i hsvs
                            cases h
                            refine (hS w I.b (o + I.sh) J.b es' clock [] hcell (hw.bound eI) k2 (hsv _ _ _ _ _ _ hes hsvs)).mono ?_
                            rintro e w' ⟨u, rfl, hrow, hnil, hbel⟩
                            obtain rfl := hnil.2 rfl
                            exact ⟨_, rfl, ρ, step_below hw hbel, .sliceNil 0 0⟩
                          · rename_i v0 vs hsvs
                            split at h
                            · rename_i hfl
                              cases h
                              refine (hS w I.b (o + I.sh) J.b es' clock _ hcell (hw.bound eI) k2 (hsv _ _ _ _ _ _ hes hsvs)).mono ?_
                              rintro e w' ⟨u, rfl, hrow, hnil, hbel⟩
                              have st := step_below hw hbel
                              rcases hrow with ⟨hl, ⟨rfl, -⟩ | ⟨g, cap, cur, rfl, hg1, hg2, hg3, hg4, hg5, hg6⟩⟩
                              · exact absurd (hnil.1 rfl) (by simp)
                              · simp only [Nat.mul_one] at hg5 hg6
                                refine ⟨_, rfl, _, step_adopt (n := cap) (z := false) (b := .cells (v0 :: vs) true) st hg2 hg1 (fun j K e hb => ?_) (.cells (fun j x hj => ?_) fun _ => ⟨hg5, fun o _ hh => Nat.not_lt_zero _ hh.2, fun _ => rfl⟩), ?_⟩
                                · have := hw.bound e; omega
                                · rw [← hg6, List.getElem?_take] at hj
                                  split at hj
                                  · rw [Array.getElem?_toList] at hj
                                    have hm : x ∈ v0 :: vs := by
                                      rw [← hg6]
                                      exact List.mem_of_getElem? (i := j) (by rw [List.getElem?_take, if_pos (by assumption), Array.getElem?_toList]; exact hj)
                                    exact ⟨x, by simpa using hj, flat_self (List.all_eq_true.1 hfl x hm)⟩
                                  · cases hj
                                · refine .slice (Nat.lt_succ_self _) (fun K e => ?_) (Nat.le_refl _) hg3 (fun h => by cases h) fun z hz K e => ?_
                                  · rw [upd_self] at e; cases e
                                    exact .inr rfl
                                  · rw [upd_self] at e; cases e
                                    cases hz
                                    refine ⟨rfl, ?_, .inr rfl⟩
                                    simp only; omega
                            · cases h
                          · cases h
            · cases h
          · cases h
        · cases h
      · cases h
    · cases h
  · cases h
theorem keys_evo {fIt : FuncId} {sv : Array MapEntry → Nat → Option (List Value)} {args : List Value} {a : AW} {v : Value} {a' : AW} (hb : a.base ≤ a.next) (h : keysG fIt sv args a = some (v, a')) : Evo a a' := by
  unfold keysG at h
  repeat' split at h
  all_goals first
    | (cases h; done)
    | (cases h; exact .refl _)
    | (cases h; exact evo_new a _ hb)
/-- .. given. -/
def withKeys (f fIt : FuncId) (sv : Array MapEntry → Nat → Option (List Value)) (G : Gives) : Gives := fun g => if g = f then some (fun args a => keysG fIt sv args.toList a) else G g
theorem keys_sound {f fIt : FuncId} {eT : TypeId} {sv : Array MapEntry → Nat → Option (List Value)} (hent : ∀ args w, (callFunc f args).run P w = .ok (.enter f args) w) (hS : KeysSay P f fIt eT sv)
    (hsv : ∀ (ρ : Ren) (K : Nat) (es es' : Array MapEntry) (clock : Nat) vs, EsRel ρ K es.toList es'.toList → sv es clock = some vs → sv es' clock = some vs) {G : Gives} (hG : G.Sound P) : (withKeys f fIt sv G).Sound P := by
  refine ⟨fun g k hk ρ a w args args' v a' hw ha hr => ?_, fun g k hk args a v a' hb hr => ?_⟩
  · unfold withKeys at hk
    split at hk
    · rename_i hg
      subst hg
      cases hk
      have := keys_sim hent hS hsv hw ha hr
      simpa using this
    · exact hG.sim g k hk ρ a w args args' v a' hw ha hr
  · unfold withKeys at hk
    split at hk
    · cases hk; exact keys_evo hb hr
    · exact hG.evo g k hk args a v a' hb hr
end
end
/- How a call is left that hands back a row of any kind. -/
section
open Go Go.RowKit
set_option linter.unusedVariables false
set_option linter.unusedSimpArgs false
theorem back_1 {a : AW} {n bs : Nat} {h : List (Nat × Blk)} {v : Value} (hv : flat v = false) : leaveA a [v] ⟨n, h, bs, []⟩ = match freshOf a.next ⟨n, h, bs, []⟩ v with
    | some (c, _) => ([moveTo a.next v], a.new (.cells c true))
    | none => ([v], ⟨n, h, a.base, a.dirty⟩) := by
  have hf : [v].filter (fun v => !flat v) = [v] := by simp [hv]
  unfold leaveA
  simp only [List.isEmpty_nil, if_true]
  rw [hf]
  cases hc : freshOf a.next ⟨n, h, bs, []⟩ v <;> simp [hv, hc]
theorem back_2 {a : AW} {n bs : Nat} {h : List (Nat × Blk)} {v u : Value} (hv : flat v = false) (hu : flat u = true) : leaveA a [v, u] ⟨n, h, bs, []⟩ = match freshOf a.next ⟨n, h, bs, []⟩ v with
    | some (c, _) => ([moveTo a.next v, u], a.new (.cells c true))
    | none => ([v, u], ⟨n, h, a.base, a.dirty⟩) := by
  have hf : [v, u].filter (fun v => !flat v) = [v] := by simp [hv, hu]
  unfold leaveA
  simp only [List.isEmpty_nil, if_true]
  rw [hf]
  cases hc : freshOf a.next ⟨n, h, bs, []⟩ v <;> simp [hv, hu, hc]
section
variable {α : Type}
theorem back_fresh {enc : α → List Value} {z : Nat} {h : List (Nat × Blk)} {n bs : Nat} {v : Value} {xs : List α} (ho : RV enc z h n v xs) (B : Nat) :
    (v = .slice none 0 0 ∧ xs = []) ∨ flat v = false ∧ (freshOf B ⟨n, h, bs, []⟩ v = none ∨ ∃ c p, freshOf B ⟨n, h, bs, []⟩ v = some (c, p) ∧ ∀ H, RV enc z ((B, .cells c true) :: H) (B + 1) (moveTo B v) xs) := by
  rcases ho with ⟨rfl, rfl⟩ | ⟨b, o, sp, cap, rw0, c, rfl, hb, hbn, hc, ht, hsp, hcap⟩
  · exact .inl ⟨rfl, rfl⟩
  · refine .inr ⟨rfl, ?_⟩
    have hg : (⟨n, h, bs, []⟩ : AW).get b = some (.cells c rw0) := hb
    simp only [freshOf, hg]
    by_cases c1 : B ≤ b
    · rw [if_pos c1]
      cases rw0 with
      | false => exact .inl rfl
      | true =>
        by_cases c3 : c.all flat = true
        · simp only [c3, if_true]
          exact .inr ⟨c, b, rfl, fun H => .inr ⟨B, o, sp, cap, true, c, rfl, look_self, by omega, hc, ht, hsp, hcap⟩⟩
        · simp only [c3]; exact .inl rfl
    · rw [if_neg c1]; exact .inl rfl
theorem back_rv {enc : α → List Value} {z : Nat} {h : List (Nat × Blk)} {n bs : Nat} {v : Value} {xs : List α} {a : AW} (ho : RV enc z h n v xs) (hn : a.next ≤ n) (hf : ∀ j, j < a.next → look j h = look j a.heap) {K : Value → AW → Prop}
    (hK : ∀ v' n' h', a.next ≤ n' → RV enc z h' n' v' xs → (∀ j, j < a.next → look j h' = look j a.heap) → K v' ⟨n', h', a.base, a.dirty⟩) :
    K (oneOf (leaveA a [v] ⟨n, h, bs, []⟩).1) (leaveA a [v] ⟨n, h, bs, []⟩).2 := by
  rcases back_fresh (bs := bs) ho a.next with ⟨rfl, rfl⟩ | ⟨hv, hfr | ⟨c, p, hfr, hr⟩⟩
  · rw [leave_flat rfl]
    exact hK _ a.next a.heap (Nat.le_refl _) (.inl ⟨rfl, rfl⟩) fun _ _ => rfl
  · have hlv : leaveA a [v] ⟨n, h, bs, []⟩ = ([v], ⟨n, h, a.base, a.dirty⟩) := by
      rw [back_1 hv, hfr]
    rw [hlv]
    exact hK _ n h hn ho hf
  · have hlv : leaveA a [v] ⟨n, h, bs, []⟩ = ([moveTo a.next v], ⟨a.next + 1, (a.next, .cells c true) :: a.heap, a.base, a.dirty⟩) := by
      rw [back_1 hv, hfr]; rfl
    rw [hlv]
    exact hK _ _ _ (by omega) (hr _) fun j hj => look_miss (by omega)
theorem back_rv2 {enc : α → List Value} {z : Nat} {h : List (Nat × Blk)} {n bs : Nat} {v u : Value} {xs : List α} {a : AW} (hu : flat u = true) (ho : RV enc z h n v xs) (hn : a.next ≤ n) (hf : ∀ j, j < a.next → look j h = look j a.heap) {K : Value → AW → Prop}
    (hK : ∀ v' n' h', a.next ≤ n' → RV enc z h' n' v' xs → (∀ j, j < a.next → look j h' = look j a.heap) → K (.tuple #[v', u]) ⟨n', h', a.base, a.dirty⟩) :
    K (oneOf (leaveA a [v, u] ⟨n, h, bs, []⟩).1) (leaveA a [v, u] ⟨n, h, bs, []⟩).2 := by
  rcases back_fresh (bs := bs) ho a.next with ⟨rfl, rfl⟩ | ⟨hv, hfr | ⟨c, p, hfr, hr⟩⟩
  · rw [leave_flat (by rw [List.all_cons, List.all_cons, hu]; rfl)]
    exact hK _ a.next a.heap (Nat.le_refl _) (.inl ⟨rfl, rfl⟩) fun _ _ => rfl
  · have hlv : leaveA a [v, u] ⟨n, h, bs, []⟩ = ([v, u], ⟨n, h, a.base, a.dirty⟩) := by
      rw [back_2 hv hu, hfr]
    rw [hlv]
    exact hK _ n h hn ho hf
  · have hlv : leaveA a [v, u] ⟨n, h, bs, []⟩ = ([moveTo a.next v, u], ⟨a.next + 1, (a.next, .cells c true) :: a.heap, a.base, a.dirty⟩) := by
      rw [back_2 hv hu, hfr]; rfl
    rw [hlv]
    exact hK _ _ _ (by omega) (hr _) fun j hj => look_miss (by omega)
end
end
/- Calls of one function, at arguments that a test lets in, given by what was shown of them. -/
section
open Go Go.RowKit
set_option linter.unusedVariables false
def withTest (f : FuncId) (p : List Value → Option Value) (G : Gives) : Gives := fun g => if g = f then some (fun args a => (p args.toList).map (·, a)) else G g
section
variable {P : Program}
theorem test_sound (hn : plainNames P = true) {f : FuncId} {fn : Func} (hf : P.funcs[f]? = some fn) (hb : fn.body.isSome = true) {p : List Value → Option Value}
    (hp : ∀ args v, p args = some v → args.all flat = true ∧ flat v = true ∧ ∀ w, Calls P f args.toArray w fun e w' => e = .returned v ∧ Below w.heap.size w w') {G : Gives} (hG : G.Sound P) : (withTest f p G).Sound P := by
  refine ⟨fun g k hk ρ a w args args' v a' hw ha hr => ?_, fun g k hk args a v a' hb e => ?_⟩
  · unfold withTest at hk
    by_cases h : g = f
    · subst h
      rw [if_pos rfl] at hk
      cases hk
      obtain ⟨v0, h1, h2⟩ := Option.map_eq_some_iff.1 hr
      cases h2
      obtain ⟨q1, q2, q3⟩ := hp _ _ h1
      have he : args' = args := Array.toList_inj.1 (flats_eq q1 ha)
      subst he
      refine .inr ⟨names_enter hn hf hb _ w, ?_⟩
      have := q3 w
      rw [Array.toArray_toList] at this
      exact this.mono fun e w' hh => ⟨v, hh.1, ρ, step_below hw hh.2, flat_self q2⟩
    · rw [if_neg h] at hk
      exact hG.1 g k hk ρ a w args args' v a' hw ha hr
  · unfold withTest at hk
    by_cases h : g = f
    · subst h
      rw [if_pos rfl] at hk
      cases hk
      obtain ⟨v0, h1, h2⟩ := Option.map_eq_some_iff.1 e
      cases h2
      exact .refl _
    · rw [if_neg h] at hk
      exact hG.2 g k hk args a v a' hb e
end
end
/- What stands for slices.Delete of a row's first element: the row is made anew. -/
section
open Go Go.RowKit
set_option linter.unusedVariables false
set_option linter.unusedSimpArgs false
def cutG (z : Nat) (args : List Value) (a : AW) : Option (Value × AW) := match args with
  | [.slice (some p) n c, .int .i64 i, .int .i64 j] => match a.get p.block with
    | some (.cells cs true) =>
      if i = 0 ∧ j = 1 ∧ a.base ≤ a.next ∧ p.off = 0 ∧ 0 < n ∧ c = n ∧ cs.length = n * z ∧ n ≤ 900000 ∧ cs.all Value.oneCell' = true ∧ cs.all flat = true ∧ p.spot = some (z + 1) then
        some (growA z (n - 1) (cs.drop z) { a.drop p.block with next := a.next + 1 })
      else none
    | _ => none
  | _ => none
/-- What the text of slices.Delete answers, where the room is known: Z is what is laid behind. -/
def CutWalk (P : Program) (G : Gives) (f : FuncId) (z : Nat) (Z : List Value) : Prop :=
  ∀ (p n c : Nat) (a : AW) cs, p < a.next → a.get p = some (.cells cs true) → cs.length = n * z → 0 < n → n ≤ c → n ≤ 900000 → cs.all Value.oneCell' = true → cs.all flat = true →
    WCall P G f [.slice (some ⟨p, 0, some 0⟩) n c, .int .i64 0, .int .i64 1] a fun v b => v = .slice (some ⟨p, 0, some 0⟩) (n - 1) c ∧ b = { a.write p (.cells (cs.drop z ++ Z) true) with next := a.next + 1 }
section
variable {P : Program}
theorem cut_sim (hm : P.follows .mixedOrders = true) (hn : plainNames P = true) {G : Gives} (hG : G.Sound P) {f : FuncId} {z : Nat} {Z : List Value} (hW : CutWalk P G f z Z) {ρ : Ren} {a : AW} {w : World} {args args' : List Value} {v : Value} {a' : AW} (hw : WRel ρ a w) (ha : LRel ρ a.next args args') (h : cutG z args a = some (v, a')) :
    CallTo P f args'.toArray w fun v' w' => ∃ ρ', Step ρ a.next w ρ' a' w' ∧ VRel ρ' a'.next v v' := by
  have use : ∀ {args args' : List Value} {a0 : AW} {w : World} {ρ : Ren} {v : Value} {b : AW}, a0.base ≤ a0.next → WRel ρ a0 w → LRel ρ a0.next args args' → WCall P G f args a0 (fun v' b' => v' = v ∧ b' = b) → CallTo P f args'.toArray w fun v' w' => ∃ ρ', Step ρ a0.next w ρ' b w' ∧ VRel ρ' b.next v v' := by
    intro args args' a0 w ρ v b hb hw ha hc
    obtain ⟨n, v', b', e, rfl, rfl⟩ := hc
    exact ((sound hm hn hG n) f args.toArray a0 v' b' e hb).2 ρ w args'.toArray hw (by simpa using ha)
  unfold cutG at h
  split at h
  · rename_i p n c i j
    split at h
    · rename_i cs hp
      obtain ⟨pb, po, ps⟩ := p
      simp only at hp h
      split at h
      · rename_i hc
        obtain ⟨rfl, rfl, hb, rfl, h0n, rfl, hcl, hnl, hco, hcf, rfl⟩ := hc
        obtain ⟨J, eJ⟩ := hw.has _ _ hp
        have hpn : pb < a.next := hw.lt _ _ eJ
        cases ha with
        | cons h1 hr1 =>
          cases hr1 with
          | cons h2 hr2 =>
            cases hr2 with
            | cons h3 hr3 =>
              cases hr3
              cases h1 with
              | @slice _ p' _ _ c' hK hp1 hln hcc h0 h2' =>
                obtain ⟨g1, g2, g3⟩ := h2' z rfl J eJ
                simp only [growA, Option.some.injEq, Prod.mk.injEq] at h
                obtain ⟨rfl, rfl⟩ := h
                have hv1 : VRel ρ a.next (.slice (some ⟨pb, 0, some 0⟩) c c') (.slice (some p') c c') := .slice hK hp1 hcc (Nat.le_refl _) (fun _ => rfl) (fun z' hz' => by simp at hz')
                have hcall := use (v := .slice (some ⟨pb, 0, some 0⟩) (c - 1) c') (b := { a.write pb (.cells (cs.drop z ++ Z) true) with next := a.next + 1 }) hb hw (.cons hv1 (.cons h2 (.cons h3 .nil))) (hW pb c c' a cs hpn hp hcl h0n hcc hnl hco hcf)
                refine CallTo.mono hcall fun v' w' ⟨ρ1, st, hv⟩ => ?_
                have hg3 : ({ a.write pb (.cells (cs.drop z ++ Z) true) with next := a.next + 1 } : AW).get pb = some (.cells (cs.drop z ++ Z) true) := by
                  simp only [AW.get, AW.write]
                  rw [look_put (x := .cells (cs.drop z ++ Z) true) hp pb, if_pos rfl]
                obtain ⟨J3, eJ3⟩ := st.rel.has _ _ hg3
                have hJ3 := st.ext.some hpn eJ3
                rw [eJ] at hJ3
                cases hJ3
                obtain ⟨b3, o3, k1, k2, k3⟩ := st.rel.blk _ _ eJ3
                rw [hg3] at k1; cases k1
                obtain ⟨_, c3, t3, f3, rfl, hc3, hs3⟩ := k3.inv
                have hx : Ext ρ1 (a.next + 1) (upd (upd ρ1 pb none) (a.next + 1) (some J)) (a.next + 1 + 1) := by
                  refine ⟨Nat.le_succ _, fun j hj => ?_⟩
                  rw [upd_ne _ _ (by omega)]
                  by_cases hji : j = pb
                  · subst hji; exact .inr (upd_self _ _ _)
                  · exact .inl (upd_ne _ _ hji)
                have ho : ORel (upd (upd ρ1 pb none) (a.next + 1) (some J)) (a.next + 1 + 1) J (.cells (cs.drop z) J.rw) (.cells c3 t3 f3) :=
                  .cells (fun j v e => by
                    have hj := (List.getElem?_eq_some_iff.1 e).1
                    obtain ⟨v', e', hv⟩ := hc3 j v (by rw [List.getElem?_append_left hj]; exact e)
                    exact ⟨v', e', hv.mono hx⟩) hs3
                rw [g1] at ho
                have st3 := step_move st.rel eJ3 g1 (J := J) rfl g1 ho k2 rfl (fun _ _ => rfl) rfl rfl rfl
                have heq : (({ a.write pb (.cells (cs.drop z ++ Z) true) with next := a.next + 1 } : AW).drop pb).new (.cells (cs.drop z) true) = ({ a.drop pb with next := a.next + 1 } : AW).new (.cells (cs.drop z) true) := by
                  simp only [AW.new, AW.drop, AW.write, kill_put, AW.mk.injEq, true_and, and_true]
                  exact (soil_again a pb)
                rw [heq] at st3
                refine ⟨_, st.trans st3, ?_⟩
                cases hv with
                | @slice _ p1 _ _ c1 hK' hp1' hln' hcc' h0' _ =>
                  have hcc1 := h0' rfl
                  subst hcc1
                  refine .slice (Nat.lt_succ_self _) (fun I3 e3 => ?_) (Nat.le_refl _) (by omega) (fun hh => by simp at hh) fun z' hz' I3 e3 => ?_
                  · have e4 : upd (upd ρ1 pb none) (a.next + 1) (some J) (a.next + 1) = some I3 := e3
                    rw [upd_self] at e4; cases e4
                    exact hp1' J eJ3
                  · have e4 : upd (upd ρ1 pb none) (a.next + 1) (some J) (a.next + 1) = some I3 := e3
                    rw [upd_self] at e4; cases e4
                    simp only [Option.some.injEq, Nat.add_right_cancel_iff] at hz'
                    subst hz'
                    exact ⟨g1, g2, g3⟩
      · cases h
    · cases h
  · cases h
theorem cut_evo {z : Nat} {args : List Value} {a : AW} {v : Value} {a' : AW} (hb : a.base ≤ a.next) (h : cutG z args a = some (v, a')) : Evo a a' := by
  unfold cutG at h
  split at h
  · rename_i p n c i j
    split at h
    · split at h
      · have h' := Option.some.inj h
        simp only [growA, Prod.mk.injEq] at h'
        have e2 : Evo a { a.drop p.block with next := a.next + 1 } := (evo_drop a _).trans (b := a.drop _) ⟨rfl, Nat.le_succ a.next, fun _ h => h, fun _ _ _ => rfl⟩
        rw [← h'.2]
        exact e2.trans (evo_new _ _ (Nat.le_succ_of_le hb))
      · cases h
    · cases h
  · cases h
/-- .. given. -/
def withCut (f : FuncId) (z : Nat) (G : Gives) : Gives := fun g => if g = f then some (fun args a => cutG z args.toList a) else G g
theorem cut_sound (hm : P.follows .mixedOrders = true) (hn : plainNames P = true) {f : FuncId} {z : Nat} {Z : List Value} {G : Gives} (hG : G.Sound P) (hW : CutWalk P G f z Z) : (withCut f z G).Sound P := by
  refine ⟨fun g k hk ρ a w args args' v a' hw ha h => ?_, fun g k hk args a v a' hb' h => ?_⟩
  · unfold withCut at hk
    split at hk
    · rename_i hff
      subst hff
      cases hk
      have := cut_sim hm hn hG hW hw ha h
      simpa using this
    · exact hG.sim g k hk ρ a w args args' v a' hw ha h
  · unfold withCut at hk
    split at hk
    · cases hk
      exact cut_evo hb' h
    · exact hG.evo g k hk args a v a' hb' h
end
end
/- A code in parts: between them it may be told which NaN a marker stands for. -/
section
open Go Go.RowKit
set_option linter.unusedVariables false
set_option linter.unusedSimpArgs false

section
variable {P : Program} {G : Gives} {fn : FuncId} {c : Code} {t : List Value} {a : AW} {Q : ExitA → List Value → AW → Prop}
/-- What a code comes to in the program, from a state that the evaluator's stands for. -/
def CSim (P : Program) (fn : FuncId) (c : Code) (t : List Value) (a : AW) (Q : ExitA → List Value → AW → Prop) : Prop :=
  ∀ ρ w (act : Act) (b : Frame) k cs, WRel ρ a w → TRel ρ a.next t act.tmps → DRel ρ a.next [] act.defers → b.fn = fn → b.roundOf = none →
    ∃ e t' a' ρ' act' w', Q e t' a' ∧ Arr P (lone (b.atR act (.code c :: k)) cs w) b k cs e act' w' ∧ Step ρ a.next w ρ' a' w' ∧ TRel ρ' a'.next t' act'.tmps ∧ DRel ρ' a'.next [] act'.defers
theorem csim_W (hm : P.follows .mixedOrders = true) (hn : plainNames P = true) (hG : G.Sound P) (hb : a.base ≤ a.next) (h : WCode P G fn none c t [] a fun e t' ds' a' => ds' = [] ∧ Q e t' a') : CSim P fn c t a Q := by
  obtain ⟨n, e, t', ds', a', hc, rfl, hq⟩ := h
  obtain ⟨_, sim⟩ := (sound_all hm hn hG n n (Nat.le_refl _)).2.2.1 _ _ _ _ _ _ _ _ _ _ hc hb
  intro ρ w act b k cs hw ht hd hfn hro
  obtain ⟨ρ', act', w', ar, _, st, ht', hd'⟩ := sim ρ w act b k cs hw ht hd hfn (fun _ => hro)
  exact ⟨e, t', a', ρ', act', w', hq, ar, st, ht', hd'⟩
theorem csim_seq {x y : Code} (h : CSim P fn x t a fun e t' a' => e = .normal ∧ CSim P fn y t' a' Q) : CSim P fn (.seq x y) t a Q := by
  intro ρ w act b k cs hw ht hd hfn hro
  obtain ⟨e, t1, a1, ρ1, act1, w1, ⟨rfl, h2⟩, ar1, st1, ht1, hd1⟩ := h ρ w act b (.code y :: k) cs hw ht hd hfn hro
  obtain ⟨e, t2, a2, ρ2, act2, w2, hq, ar2, st2, ht2, hd2⟩ := h2 ρ1 w1 act1 b k cs st1.rel ht1 hd1 hfn hro
  exact ⟨e, t2, a2, ρ2, act2, w2, hq, .of_steps (.head stepR_seq ar1) ar2, st1.trans st2, ht2, hd2⟩
theorem set_same {α : Type} : ∀ {l : List α} {i : Nat} {v : α}, l[i]? = some v → l.set i v = l
  | x :: l, 0, v, h => by simp at h; subst h; rfl
  | x :: l, i + 1, v, h => by rw [List.set_cons_succ, set_same (by simpa using h)]
theorem csim_nan {i : Nat} (hi : t[i]? = some nanV) (h : ∀ b, Ieee.double.order b b = none → b < 18446744073709551616 → CSim P fn c (t.set i (.float .f64 b)) a Q) : CSim P fn c t a Q := by
  intro ρ w act b k cs hw ht hd hfn hro
  obtain ⟨v', e1, hv⟩ := LRel.get ht hi
  cases hv with
  | @nan b' hb =>
    refine h b' hb.1 hb.2 ρ w act b k cs hw ?_ hd hfn hro
    have h2 := LRel.set ht (VRel.float (ρ := ρ) (K := a.next) .f64 b') i
    rw [set_same e1] at h2
    exact h2
theorem csim_calls (hn : plainNames P = true) {f : FuncId} {fn : Func} {c : Code} (hf : P.funcs[f]? = some fn) (hc : fn.body = some c) {n : Nat} (hnt : fn.ntmps = n) (h : CSim P f c (List.replicate n undef) empty Q)
    (hres : ∀ e t a', Q e t a' → (e = .normal ∨ e = .ret) ∧ resultsA P a' t fn.results.toList = some [.bool true]) (w : World) : Calls P f #[] w fun e w' => e = .returned (.bool true) ∧ Below w.heap.size w w' := by
  intro cs
  let b : Frame := { (default : Frame) with fn := f, kind := .normal }
  have henter : Frame.enter P f #[] .normal = b.atR { tmps := #[] ++ Array.replicate (fn.ntmps - (#[] : Array Value).size) undef, defers := [] } [.code c] := by
    simp [Frame.enter, Frame.atR, hf, hc, b]
    rfl
  have htr : TRel noRen empty.next (List.replicate n undef) (#[] ++ Array.replicate (fn.ntmps - (#[] : Array Value).size) undef) := by
    show LRel noRen empty.next _ _
    rw [Array.toList_append, Array.toList_replicate, hnt]
    exact .replicate rel_undef _
  obtain ⟨e, t', a', ρ1, act1, w1, hq, ar1, st1, ht1, hd1⟩ := h noRen w { tmps := #[] ++ Array.replicate (fn.ntmps - (#[] : Array Value).size) undef, defers := [] } b [] cs (rel_empty w) htr .nil rfl rfl
  obtain ⟨he, hvs⟩ := hres _ _ _ hq
  have hret : ∃ todo, Steps P (lone (Frame.enter P f #[] .normal) cs w) (lone { b.atR act1 todo with mode := .returning } cs w1) := by
    rw [henter]
    rcases he with rfl | rfl
    · exact ⟨[], ar1.trans (.one (stepR_end rfl))⟩
    · obtain ⟨k1, hs1⟩ := ar1
      exact ⟨_, hs1.trans (.one (stepR_ret rfl))⟩
  obtain ⟨todo, hs1⟩ := hret
  obtain ⟨ρ2, w2, hs2, st2⟩ := steps_unwind (P := P) cs (fr := { b.atR act1 todo with mode := .returning }) st1.rel hd1 rfl (show unwindA [] a' = some a' from rfl)
  obtain ⟨vs', hl, hres2⟩ := run_results_all (P := P) st2.rel (ht1.mono st2.ext) hvs
  have he : vs' = [.bool true] := flats_eq (by rfl) hl
  subst he
  refine ⟨_, w2, _, ⟨rfl, below_of (st1.trans st2)⟩, hs1.trans hs2, rfl, ?_⟩
  exact ⟨rfl, rfl, rfl, fn, hf, hres2⟩
end
end
/- Calls, codes and operations whose outcome is told by a relation. -/
section
open Go Go.RowKit
set_option linter.unusedVariables false
set_option linter.unusedSimpArgs false

section
variable {P : Program} {G : Gives} {fn : FuncId} {c : Code} {t : List Value} {ds : List Nat} {a : AW} {Q : ExitA → List Value → List Nat → AW → Prop}
/-- What a call comes to in the program, where its arguments and the memory stand for the evaluator's. -/
def CallSim (P : Program) (f : FuncId) (args : Array Value) (a : AW) (R : Value → AW → Prop) : Prop :=
  ∀ ρ w args', WRel ρ a w → LRel ρ a.next args.toList args'.toList → CallTo P f args' w fun v' w' => ∃ v a' ρ', R v a' ∧ Evo a a' ∧ Step ρ a.next w ρ' a' w' ∧ VRel ρ' a'.next v v'
theorem callsim_W (hm : P.follows .mixedOrders = true) (hn : plainNames P = true) (hG : G.Sound P) {f : FuncId} {args : List Value} {K : Value → AW → Prop} (hb : a.base ≤ a.next) (h : WCall P G f args a K) : CallSim P f args.toArray a K := by
  obtain ⟨n, v, b, hc, hk⟩ := h
  obtain ⟨ev, sim⟩ := sound hm hn hG n _ _ _ _ _ hc hb
  intro ρ w args' hw ha
  have hmono : ∀ {Q Q' : Value → World → Prop}, (∀ v w, Q v w → Q' v w) → CallTo P f args' w Q → CallTo P f args' w Q' := by
    intro Q Q' hq hh
    rcases hh with ⟨v1, w1, e1, q1⟩ | ⟨e1, q1⟩
    · exact .inl ⟨v1, w1, e1, hq _ _ q1⟩
    · exact .inr ⟨e1, q1.mono fun e w' ⟨v, he, hv⟩ => ⟨v, he, hq _ _ hv⟩⟩
  exact hmono (fun v' w' ⟨ρ', st, hv⟩ => ⟨v, b, ρ', hk, ev, st, hv⟩) (sim ρ w args' hw ha)
def CSimD (P : Program) (fn : FuncId) (c : Code) (t : List Value) (ds : List Nat) (a : AW) (Q : ExitA → List Value → List Nat → AW → Prop) : Prop :=
  ∀ ρ w (act : Act) (b : Frame) k cs, WRel ρ a w → TRel ρ a.next t act.tmps → DRel ρ a.next ds act.defers → b.fn = fn → b.roundOf = none →
    ∃ e t' ds' a' ρ' act' w', Q e t' ds' a' ∧ Evo a a' ∧ Arr P (lone (b.atR act (.code c :: k)) cs w) b k cs e act' w' ∧ Step ρ a.next w ρ' a' w' ∧ TRel ρ' a'.next t' act'.tmps ∧ DRel ρ' a'.next ds' act'.defers
theorem csimd_W (hm : P.follows .mixedOrders = true) (hn : plainNames P = true) (hG : G.Sound P) (hb : a.base ≤ a.next) (h : WCode P G fn none c t ds a Q) : CSimD P fn c t ds a Q := by
  obtain ⟨n, e, t', ds', a', hc, hq⟩ := h
  obtain ⟨ev, sim⟩ := (sound_all hm hn hG n n (Nat.le_refl _)).2.2.1 _ _ _ _ _ _ _ _ _ _ hc hb
  intro ρ w act b k cs hw ht hd hfn hro
  obtain ⟨ρ', act', w', ar, _, st, ht', hd'⟩ := sim ρ w act b k cs hw ht hd hfn (fun _ => hro)
  exact ⟨e, t', ds', a', ρ', act', w', hq, ev, ar, st, ht', hd'⟩
theorem csimd_seq {x y : Code} (h : CSimD P fn x t ds a fun e t' ds' a' => e = .normal ∧ CSimD P fn y t' ds' a' Q) : CSimD P fn (.seq x y) t ds a Q := by
  intro ρ w act b k cs hw ht hd hfn hro
  obtain ⟨e, t1, d1, a1, ρ1, act1, w1, ⟨rfl, h2⟩, ev1, ar1, st1, ht1, hd1⟩ := h ρ w act b (.code y :: k) cs hw ht hd hfn hro
  obtain ⟨e, t2, d2, a2, ρ2, act2, w2, hq, ev2, ar2, st2, ht2, hd2⟩ := h2 ρ1 w1 act1 b k cs st1.rel ht1 hd1 hfn hro
  exact ⟨e, t2, d2, a2, ρ2, act2, w2, hq, ev1.trans ev2, .of_steps (.head stepR_seq ar1) ar2, st1.trans st2, ht2, hd2⟩
theorem csimd_block {id : Nat} (h : CSimD P fn c t ds a fun e t' ds' a' => e = .normal ∧ Q .normal t' ds' a') : CSimD P fn (.block id c) t ds a Q := by
  intro ρ w act b k cs hw ht hd hfn hro
  obtain ⟨e, t1, d1, a1, ρ1, act1, w1, ⟨rfl, hq⟩, ev1, ar1, st1, ht1, hd1⟩ := h ρ w act b (.inBlock id :: k) cs hw ht hd hfn hro
  exact ⟨.normal, t1, d1, a1, ρ1, act1, w1, hq, ev1, .head stepR_block (ar1.trans (.one stepR_inBlock)), st1, ht1, hd1⟩
/-- Operations, one by one. -/
def OpsSim (P : Program) (ops : Array Oper) (l : List Nat) (t : List Value) (a : AW) (Q : List Value → AW → Prop) : Prop :=
  ∀ ρ w (act : Act) (b : Frame) k cs, WRel ρ a w → TRel ρ a.next t act.tmps →
    ∃ t' a' ρ' act' w', Q t' a' ∧ Evo a a' ∧ Steps P (lone (b.atR act (.inRegion ops l :: k)) cs w) (lone (b.atR act' k) cs w') ∧ Step ρ a.next w ρ' a' w' ∧ TRel ρ' a'.next t' act'.tmps ∧ act'.defers = act.defers
section
variable {ops : Array Oper} {l rest : List Nat} {i : Nat} {o : Oper} {v : Value} {a1 : AW} {Q : List Value → AW → Prop} {R : Value → AW → Prop}
theorem opssim_nil (h : Q t a) : OpsSim P ops [] t a Q :=
  fun ρ w act b k cs hw ht => ⟨t, a, ρ, act, w, h, .refl _, .one stepR_region_end, .refl hw, ht, rfl⟩
theorem opssim_value (hop : ops[i]? = some o) (hwant : Region.wanted o (yieldedA ops t) = true) (hb : a.base ≤ a.next) (hopA : opA P t o a = some (.value v, a1)) (h : OpsSim P ops rest (putT t o.dst v) a1 Q) : OpsSim P ops (i :: rest) t a Q := by
  intro ρ w act b k cs hw ht
  have ev1 := evo_op hb hopA
  have hwk := sim_op (P := P) (w := w) hw ht hopA
  cases hwk with
  | value hd =>
    obtain ⟨ρ1, w1, nx, hrun, st, hnx⟩ := hd
    have hy : Region.wanted o (yielded ops act.tmps) = true := by rw [rel_yielded ht]; exact hwant
    rcases hnx with ⟨v', rfl, hv⟩ | ⟨rfl, rfl⟩
    · obtain ⟨t', a', ρ', act', w', hq, ev2, hs, st', ht', hd'⟩ := h ρ1 w1 (act.put o.dst v') b k cs st.rel (rel_put (ht.mono st.ext) o.dst hv)
      exact ⟨t', a', ρ', act', w', hq, ev1.trans ev2, .head (step_value hop hy (not_defer hopA) hrun) hs, st.trans st', ht', by rw [hd']; cases o.dst <;> rfl⟩
    · obtain ⟨t', a', ρ', act', w', hq, ev2, hs, st', ht', hd'⟩ := h ρ1 w1 (act.put o.dst undef) b k cs st.rel (rel_put (ht.mono st.ext) o.dst rel_undef)
      exact ⟨t', a', ρ', act', w', hq, ev1.trans ev2, .head (step_skipped hop hy (not_defer hopA) hrun) hs, st.trans st', ht', by rw [hd']; cases o.dst <;> rfl⟩
theorem opssim_call {f : FuncId} {args : Array Value} (hop : ops[i]? = some o) (hwant : Region.wanted o (yieldedA ops t) = true) (hb : a.base ≤ a.next) (hopA : opA P t o a = some (.enter f args, a1)) (hc : CallSim P f args a1 R) (h : ∀ v a2, R v a2 → OpsSim P ops rest (putT t o.dst v) a2 Q) : OpsSim P ops (i :: rest) t a Q := by
  intro ρ w act b k cs hw ht
  have ev1 := evo_op hb hopA
  have hwk := sim_op (P := P) (w := w) hw ht hopA
  cases hwk with
  | enter ha hrun =>
    have hy : Region.wanted o (yielded ops act.tmps) = true := by rw [rel_yielded ht]; exact hwant
    obtain ⟨v', w1, ⟨v, a2, ρ1, hR, evc, st, hv⟩, hs1⟩ := steps_call (b := b) (k := k) (cs := cs) (rest := rest) hop hy (not_defer hopA) hrun (hc ρ w _ hw ha)
    obtain ⟨t', a', ρ', act', w', hq, ev2, hs, st', ht', hd'⟩ := h v a2 hR ρ1 w1 (act.put o.dst v') b k cs st.rel (rel_put (ht.mono st.ext) o.dst hv)
    exact ⟨t', a', ρ', act', w', hq, (ev1.trans evc).trans ev2, hs1.trans hs, st.trans st', ht', by rw [hd']; cases o.dst <;> rfl⟩
end
theorem csimd_region {id : Nat} {ops : Array Oper} (h : OpsSim P ops (List.range ops.size) t a fun t' a' => Q .normal t' ds a') : CSimD P fn (.region id ops false) t ds a Q := by
  intro ρ w act b k cs hw ht hd hfn hro
  obtain ⟨t', a', ρ1, act1, w1, hq, ev, hs, st1, ht1, hd1⟩ := h ρ w act b k cs hw ht
  exact ⟨.normal, t', ds, a', ρ1, act1, w1, hq, ev, .head stepR_region hs, st1, ht1, by rw [hd1]; exact hd.mono st1.ext⟩
/-- A call, out of its body. -/
theorem callsim_code (hn : plainNames P = true) {f : FuncId} {fd : Func} {c : Code} {m : Nat} {rs : List ResultVar} (hf : P.funcs[f]? = some fd) (hc : fd.body = some c) (hm : fd.ntmps = m) (hr : fd.results = rs.toArray) {args : List Value} {R : Value → AW → Prop} (hb : a.base ≤ a.next)
    (h : CSimD P f c (args ++ List.replicate (m - args.length) undef) [] ⟨a.next, a.heap, a.next, []⟩ fun e t ds a1 => WRet P a rs e t ds a1 fun v a' => R v a' ∧ Evo a a') : CallSim P f args.toArray a R := by
  intro ρ w args' hw ha
  have hsz : args.length = args'.size := by simpa using ha.length
  refine .inr ⟨names_enter hn hf (by rw [hc]; rfl) args' w, fun cs => ?_⟩
  let b : Frame := { (default : Frame) with fn := f, kind := .normal }
  have henter : Frame.enter P f args' .normal = b.atR { tmps := args' ++ Array.replicate (fd.ntmps - args'.size) undef, defers := [] } [.code c] := by
    simp [Frame.enter, Frame.atR, hf, hc, b]
    rfl
  have htr : TRel ρ a.next (args ++ List.replicate (m - args.length) undef) (args' ++ Array.replicate (fd.ntmps - args'.size) undef) := by
    show LRel ρ a.next _ _
    rw [Array.toList_append, Array.toList_replicate, hm, hsz]
    have ha' : LRel ρ a.next args args'.toList := by simpa using ha
    exact ha'.append (.replicate rel_undef _)
  obtain ⟨e, t1, d1, a1, ρ1, act1, w1, hq, ev1, ar1, st1, ht1, hd1⟩ := h ρ w { tmps := args' ++ Array.replicate (fd.ntmps - args'.size) undef, defers := [] } b [] cs (same_mem hw rfl rfl) htr .nil rfl rfl
  have he : e = .normal ∨ e = .ret := by
    cases e with
    | normal => exact .inl rfl
    | ret => exact .inr rfl
    | exit i => exact hq.elim
    | goto l => exact hq.elim
  have hq2 : WVal (unwindA d1 a1) fun b => WVal (resultsA P b t1 rs) fun vs => (R (oneOf (leaveA a vs b).1) (leaveA a vs b).2 ∧ Evo a (leaveA a vs b).2) := by
    rcases he with rfl | rfl
    · exact hq
    · exact hq
  have hv1 : ∃ a2, unwindA d1 a1 = some a2 ∧ ∃ vs, resultsA P a2 t1 rs = some vs ∧ R (oneOf (leaveA a vs a2).1) (leaveA a vs a2).2 ∧ Evo a (leaveA a vs a2).2 := by
    cases hu : unwindA d1 a1 with
    | none => rw [hu] at hq2; exact hq2.elim
    | some a2 =>
      rw [hu] at hq2
      have hq3 : WVal (resultsA P a2 t1 rs) fun vs => (R (oneOf (leaveA a vs a2).1) (leaveA a vs a2).2 ∧ Evo a (leaveA a vs a2).2) := hq2
      cases hvs : resultsA P a2 t1 rs with
      | none => rw [hvs] at hq3; exact hq3.elim
      | some vs => rw [hvs] at hq3; exact ⟨a2, rfl, vs, hvs, hq3⟩
  obtain ⟨a2, hu, vs, hvs, hR, hE⟩ := hv1
  have hret : ∃ todo, Steps P (lone (Frame.enter P f args' .normal) cs w) (lone { b.atR act1 todo with mode := .returning } cs w1) := by
    rw [henter]
    rcases he with rfl | rfl
    · exact ⟨[], ar1.trans (.one (stepR_end rfl))⟩
    · obtain ⟨k1, hs1⟩ := ar1
      exact ⟨_, hs1.trans (.one (stepR_ret rfl))⟩
  obtain ⟨todo, hs1⟩ := hret
  have ev2 := ev1.trans (evo_unwind hu)
  obtain ⟨ρ2, w2, hs2, st2⟩ := steps_unwind (P := P) cs (fr := { b.atR act1 todo with mode := .returning }) st1.rel hd1 rfl hu
  have hvs' : resultsA P a2 t1 fd.results.toList = some vs := by rw [hr]; simpa using hvs
  obtain ⟨vs', hl, hres⟩ := run_results_all (P := P) st2.rel (ht1.mono st2.ext) hvs'
  have st12 := st1.trans st2
  obtain ⟨ρ3, st3, hl3⟩ := sim_leave (a := a) hw st12 hl ev2.base (fun i hi hni => ev2.get i hi hni)
  refine ⟨_, w2, _, ⟨_, rfl, _, _, ρ3, hR, hE, st3, rel_one hl3⟩, hs1.trans hs2, rfl, ?_⟩
  exact ⟨rfl, rfl, rfl, fd, hf, hres⟩
end
end
/- A loop over a function whose call is told by a relation. -/
section
open Go Go.RowKit
set_option linter.unusedVariables false
set_option linter.unusedSimpArgs false

section
variable {P : Program} {fn : FuncId} {t : List Value} {ds : List Nat} {a : AW} {Q : ExitA → List Value → List Nat → AW → Prop}
/-- The memory at the beginning of the iterator's call: what is deferred, and the loop. -/
def ringA (fn : FuncId) (t : List Value) (ps : Array Tmp) (assign body : Code) (a : AW) : AW :=
  (a.new (.obj (.deferred (some [])))).new (.obj (.loop { state := .ready, pending := none, fn, tmps := t.toArray, params := ps, assign, body, defers := a.next }))
theorem csimd_range (hn : plainNames P = true) {g : Operand} {ps : Array Tmp} {assign body : Code} {f : FuncId} {first captured : Array Value} {fd : Func} (hg : evalA t g = some (.func (.func f) first captured)) (hfd : P.funcs[f]? = some fd) (hbd : fd.body.isSome = true) (hb : a.base ≤ a.next) {R : Value → AW → Prop}
    (hc : CallSim P f (first ++ #[.func (.yield (a.next + 1)) #[] #[]] ++ captured) (ringA fn t ps assign body a) R)
    (hR : ∀ v a3, R v a3 → ∃ r, a3.get (a.next + 1) = some (.obj (.loop r)) ∧ r.state ≠ .busy ∧ r.pending = none ∧ Q .normal t (a.next :: ds) (a3.write (a.next + 1) (.obj (.loop { r with state := .exhausted })))) :
    CSimD P fn (.rangeFunc g ps assign body) t ds a Q := by
  have evn := (evo_new a (.obj (.deferred (some []))) hb).trans (evo_new (a.new (.obj (.deferred (some [])))) (.obj (.loop { state := .ready, pending := none, fn, tmps := t.toArray, params := ps, assign, body, defers := a.next })) (Nat.le_succ_of_le hb))
  intro ρ w act b k cs hw ht hd hfn hro
  have st1 := step_obj hw (o := .deferred (some [])) (o' := .deferred (some [])) .deferred (by simp)
  have st2 := step_obj st1.rel (o := .loop { state := .ready, pending := none, fn, tmps := t.toArray, params := ps, assign, body, defers := a.next })
    (o' := .loop { state := .ready, pending := none, fn, tmps := act.tmps, params := ps, assign, body, defers := w.heap.size })
    (.loop _ _ _ _ _ _ (by simpa using ((ht.mono st1.ext).mono (ext_new st1.rel _))) (by show a.next < a.next + 1 + 1; omega) (fun I eI => by
      rw [upd_ne _ _ (by show a.next ≠ a.next + 1; omega), upd_self] at eI; cases eI; rfl)) (by simp)
  have hsz : ({ w with heap := w.heap.push (.deferred (some [])) } : World).heap.size = w.heap.size + 1 := by simp
  rw [hsz] at st2
  have st12 := st1.trans st2
  have hv := rel_eval ht hg
  obtain ⟨fn', f', c', eg, hfr, hf', hc'⟩ := func_inv hv
  cases hfr
  have hyield : LRel (upd (upd ρ a.next (some ⟨w.heap.size, 0, 0, true, false⟩)) (a.next + 1) (some ⟨w.heap.size + 1, 0, 0, true, false⟩)) (a.next + 1 + 1) [.func (.yield (a.next + 1)) #[] #[]] [.func (.yield (w.heap.size + 1)) #[] #[]] :=
    .one (.func (.yield (Nat.lt_succ_self _) (fun I eI => by rw [upd_self] at eI; cases eI; rfl)) rfl (fun i p => by simp at p) rfl (fun i p => by simp at p))
  have hargs : LRel (upd (upd ρ a.next (some ⟨w.heap.size, 0, 0, true, false⟩)) (a.next + 1) (some ⟨w.heap.size + 1, 0, 0, true, false⟩)) (a.next + 1 + 1)
      (first ++ #[Value.func (.yield (a.next + 1)) #[] #[]] ++ captured).toList (f' ++ #[Value.func (.yield (w.heap.size + 1)) #[] #[]] ++ c').toList := by
    simp only [Array.toList_append]
    exact ((hf'.mono st12.ext).append hyield).append (hc'.mono st12.ext)
  have hct := hc _ _ _ st2.rel hargs
  have hent := names_enter hn hfd hbd (f' ++ #[Value.func (.yield (w.heap.size + 1)) #[] #[]] ++ c')
  rcases hct with ⟨v1, w1, e1, _⟩ | ⟨_, hcl2⟩
  · rw [hent] at e1; cases e1
  · have he : (Instr.enterLoop b.fn act.tmps ps assign body b.roundOf).run P w = .ok (w.heap.size + 1, [{ target := .collected w.heap.size, args := #[] }])
        ((w.alloc (.deferred (some []))).alloc (.loop { state := .ready, pending := none, fn, tmps := act.tmps, params := ps, assign, body, defers := w.heap.size })) := by
      rw [hro, hfn]; exact run_enterLoop_outer _ _ _ _ _
    have hres : (resolve act.eval (rangeCall g (w.heap.size + 1)) 0).run P ((w.alloc (.deferred (some []))).alloc (.loop { state := .ready, pending := none, fn, tmps := act.tmps, params := ps, assign, body, defers := w.heap.size })) =
        .ok { target := .fn (.func f) c', args := f' ++ #[Value.func (.yield (w.heap.size + 1)) #[] #[]] } ((w.alloc (.deferred (some []))).alloc (.loop { state := .ready, pending := none, fn, tmps := act.tmps, params := ps, assign, body, defers := w.heap.size })) := by
      unfold resolve
      simp only [rangeCall, eg, Deferred.ofValue, Sem.run_pure]
      simp [Act.eval]
    have hinv : (invoke (.fn (.func f) c') (f' ++ #[Value.func (.yield (w.heap.size + 1)) #[] #[]])).run P ((w.alloc (.deferred (some []))).alloc (.loop { state := .ready, pending := none, fn, tmps := act.tmps, params := ps, assign, body, defers := w.heap.size })) =
        .ok (.enter f (f' ++ #[Value.func (.yield (w.heap.size + 1)) #[] #[]] ++ c')) ((w.alloc (.deferred (some []))).alloc (.loop { state := .ready, pending := none, fn, tmps := act.tmps, params := ps, assign, body, defers := w.heap.size })) := hent _
    have s1 := stepR_rangeFunc (b := b) (a := act) (k := k) (cs := cs) he hres hinv
    obtain ⟨e0, w3, fr, ⟨v3, rfl, v0, a3, ρ3, hR3, ev1, st3, hv3⟩, hcomes, hfn3, hleave⟩ := hcl2 (b.atR { act with defers := [{ target := .collected w.heap.size, args := #[] }] ++ act.defers } (.inRangeFunc (w.heap.size + 1) :: k) :: cs)
    obtain ⟨r, hgl, hbusy, hpd, hq⟩ := hR v0 a3 hR3
    obtain ⟨I3, o3, j1, j2, j3, j4, j5⟩ := obj_rel st3.rel hgl
    have hI3 : I3 = ⟨w.heap.size + 1, 0, 0, true, false⟩ := by
      have hx := st3.ext.some (i := a.next + 1) (by show a.next + 1 < a.next + 1 + 1; omega) j1
      have hx2 : upd (upd ρ a.next (some ⟨w.heap.size, 0, 0, true, false⟩)) (a.next + 1) (some ⟨w.heap.size + 1, 0, 0, true, false⟩) (a.next + 1) = some I3 := hx
      rw [upd_self] at hx2; exact (Option.some.inj hx2).symm
    subst hI3
    have evw := evo_write a3 (a.next + 1) (.obj (.loop { r with state := .exhausted }))
    have ev3 := (evn.trans ev1).trans evw
    obtain ⟨st', pd, fnr, tr, psr, xr, yr, dr⟩ := r
    cases j3 with
    | @loop _ _ _ _ t' _ _ _ _ d' hl hdK hd1 =>
      have hbz : st' ≠ .busy := hbusy
      have hend := run_endLoop (P := P) j2 hbz
      obtain ⟨s2, st4⟩ := sim_setObj (P := P) st3.rel hgl j1 j2 j5 rfl (n := .loop ⟨.exhausted, pd, fnr, tr, psr, xr, yr, dr⟩) (n' := .loop ⟨.exhausted, pd, fnr, t', psr, xr, yr, d'⟩) (.loop _ _ _ _ _ _ hl hdK hd1) (by simp)
      have hall := (st12.trans st3).trans st4
      have hpd' : pd = none := hpd
      subst hpd'
      refine ⟨.normal, t, a.next :: ds, _, ρ3, { act with defers := [{ target := .collected w.heap.size, args := #[] }] ++ act.defers }, _, hq, ev3, .head s1 (hcomes.trans (.head ?_ (.one (stepR_endRangeFunc hend)))), hall, ht.mono hall.ext, ?_⟩
      · rw [← finish_atR_inRangeFunc (w.heap.size + 1) v3]; exact step_leave_returned hleave
      · refine .cons ?_ (fun I eI => ?_) (hd.mono hall.ext)
        · exact Nat.lt_of_lt_of_le (show a.next < a.next + 1 + 1 by omega) st3.ext.1
        · have hx := st3.ext.some (i := a.next) (by show a.next < a.next + 1 + 1; omega) eI
          have hx2 : upd (upd ρ a.next (some ⟨w.heap.size, 0, 0, true, false⟩)) (a.next + 1) (some ⟨w.heap.size + 1, 0, 0, true, false⟩) a.next = some I := hx
          rw [upd_ne _ _ (by omega), upd_self] at hx2
          cases hx2; rfl
end
end
end Go.Proofs.YtlbmjpmonaekgaaAM
