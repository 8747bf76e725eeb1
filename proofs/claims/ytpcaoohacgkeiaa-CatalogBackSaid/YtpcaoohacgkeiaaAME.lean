/- Elements of arguments; lists within blocks of one's own. (and what follows from it) -/
import Derived.Test.YtpcaoohacgkeiaaAMD
import Derived.SizedLaws
namespace Go.Proofs.YtpcaoohacgkeiaaAM
/- Elements of arguments; lists within blocks of one's own. -/
section
open Go Go.RowKit Go.ChangeShapes Go.WideShapes Go.ChangeAt Go.Joins Go.Deep
set_option linter.unusedVariables false
set_option linter.unusedSimpArgs false

section
variable {H : Type} {α β : Type} {enc0 : TypeId × Value → H} {P : Program} {W : World} {held : Bool}
theorem opens_map {t : TypeId} {R : Rep0 α} {S : Rep0 β} (f : α → β) (h : Opens enc0 P W held t R) (hm : ∀ x h n ac, R x h n ac → S (f x) h n ac) : Opens enc0 P W held t S := by
  intro cs hr ρ a hin hsome
  obtain ⟨x, ac, ρ', a', h1, h2, h3⟩ := h cs hr ρ a hin hsome
  exact ⟨f x, ac, ρ', a', hm _ _ _ _ h1, h2, h3⟩
/-- The element at a place. -/
theorem SliceR.elem {R : Rep0 α} {z : Nat} {xs : List α} {h : List (Nat × Blk)} {n : Nat} {v : Value} (hr : SliceR R z xs h n [v]) {i : Nat} {x : α} (hx : xs[i]? = some x) :
    ∃ q fl l, v = .slice (some ⟨q, 0, none⟩) xs.length xs.length ∧ q < n ∧ look q h = some (.cells fl false) ∧ l.length = z ∧ i * z + z ≤ fl.length ∧ (∀ j, j < z → fl[i * z + j]? = l[j]?) ∧ (fl.drop (i * z)).take z = l ∧ R x h n l := by
  rcases hr with ⟨_, rfl⟩ | ⟨q, acs, e, hq, hqn, h1, h2, h3⟩
  · simp at hx
  · cases e
    obtain ⟨hi, _⟩ := List.getElem?_eq_some_iff.1 hx
    have hia : acs[i]? = some acs[i] := List.getElem?_eq_getElem (by omega)
    have hl : acs[i].length = z := h2 _ (List.getElem_mem _)
    have hfl := flatten_len h2
    have hle : i * z + z ≤ acs.length * z := by rw [← Nat.succ_mul]; exact Nat.mul_le_mul_right z (by omega)
    have hat : ∀ j, j < z → (List.flatten acs)[i * z + j]? = acs[i][j]? := fun j hj => by rw [flatten_at h2 hj, hia]; rfl
    refine ⟨q, List.flatten acs, acs[i], rfl, hqn, hq, hl, by omega, hat, ?_, h3 i x _ hx hia⟩
    refine List.ext_getElem? fun j => ?_
    by_cases hj : j < z
    · rw [List.getElem?_take_of_lt hj, List.getElem?_drop, hat j hj]
    · rw [List.getElem?_eq_none (by rw [List.length_take]; omega), List.getElem?_eq_none (by omega)]
/-- How long an argument may be. -/
theorem arg_len {t e : TypeId} {v : Value} {d : DataW H} {p : List MemPlace} (ht : P.underlying t = some (.slice e)) (h : DataW.Trod enc0 P W 0 (fun _ => true) held t v d p) {ρ : Ren} {K : Nat} {q : Option Addr} {n c : Nat} (hv : VRel ρ K (.slice q n c) v) : n ≤ maxLen := by
  obtain ⟨fuel, hf⟩ := h
  cases hv with
  | sliceNil n c =>
    rcases open_slice ht hf with ⟨e0, _⟩ | ⟨q, len', cap', m, n', D, Pl, e0, _⟩
    · have e1 : (Value.slice none n c).cells.toList = [.slice none n c] := rfl
      rw [e1] at e0; cases e0; exact Nat.zero_le _
    · have e1 : (Value.slice none n c).cells.toList = [.slice none n c] := rfl
      rw [e1] at e0; cases e0
  | @slice a a' _ _ c' h h1 hn hc h0 h2 =>
    have e1 : (Value.slice (some a') n c').cells.toList = [.slice (some a') n c'] := rfl
    rcases open_slice ht hf with ⟨e0, _⟩ | ⟨q, len', cap', m, n', D, Pl, e0, hb, hl, hcap, _⟩
    · rw [e1] at e0; cases e0
    · rw [e1] at e0; cases e0; omega
/-- .. by the weight of what is handed in. -/
theorem arg_sized {t e : TypeId} {v : Value} {d : DataW H} {p : List MemPlace} (ht : P.underlying t = some (.slice e)) (h : DataW.Trod enc0 P W 0 (fun _ => true) held t v d p) {ρ : Ren} {K : Nat} {q : Option Addr} {n c : Nat} (hv : VRel ρ K (.slice q n c) v)
    {ts : List TypeId} {ds : List (DataW H)} (hs : (DataW.weightsEach P ts ds).all (· ≤ reachBytes) = true) {j : Nat} (hj : ts[j]? = some t) (hd : ds[j]? = some d) (hb : 1 ≤ P.bytesOf e) : n ≤ 140737488355328 := by
  obtain ⟨fuel, hf⟩ := h
  cases hv with
  | sliceNil n c =>
    rcases open_slice ht hf with ⟨e0, _⟩ | ⟨q, len', cap', m, n', D, Pl, e0, _⟩
    · have e1 : (Value.slice none n c).cells.toList = [.slice none n c] := rfl
      rw [e1] at e0; cases e0; exact Nat.zero_le _
    · have e1 : (Value.slice none n c).cells.toList = [.slice none n c] := rfl
      rw [e1] at e0; cases e0
  | @slice a a' _ _ c' h h1 hn hc h0 h2 =>
    have e1 : (Value.slice (some a') n c').cells.toList = [.slice (some a') n c'] := rfl
    rcases open_slice ht hf with ⟨e0, _⟩ | ⟨q, len', cap', m, n', D, Pl, e0, hb', hl, hcap, hm, hx, _⟩
    · rw [e1] at e0; cases e0
    · rw [e1] at e0; cases e0
      cases hx
      have h1 := sized_slice hs hj hd ht
      have h2 := reachBytes_lt
      rw [List.length_map, List.length_range] at h1
      have h3 := Nat.mul_le_mul_left (n + ((List.range (m - n)).map fun j => D (n + j)).length) hb
      omega
theorem SliceR.len {R : Rep0 α} {z : Nat} {xs : List α} {h : List (Nat × Blk)} {n : Nat} {v : Value} (hr : SliceR R z xs h n [v]) : ∃ p c, v = .slice p xs.length c := by
  rcases hr with ⟨e, rfl⟩ | ⟨q, acs, e, _⟩
  · cases e; exact ⟨none, 0, rfl⟩
  · cases e; exact ⟨_, _, rfl⟩
end
end
/- The rules, bundled. -/
section
open Go Go.RowKit
set_option linter.unusedVariables false
abbrev WB := (And.intro (And.intro (And.intro (And.intro (And.intro (And.intro (And.intro @code_seq (And.intro @code_region @code_ret)) (And.intro @code_cond (And.intro @code_block @code_exit))) (And.intro (And.intro @code_skip (And.intro @code_label @onNormal_normal)) (And.intro @onNormal_ret (And.intro @onNormal_exit @onExit_normal)))) (And.intro (And.intro (And.intro @onExit_ret (And.intro @onExit_self @onExit_other)) (And.intro @dsts_nil (And.intro @dsts_cons @WL_nil))) (And.intro (And.intro @WL_plain (And.intro @WL_none @WL_guard)) (And.intro (And.intro @WL_gnone @op_move) (And.intro @op_assign @op_bin))))) (And.intro (And.intro (And.intro (And.intro @op_pick (And.intro @op_un @op_call)) (And.intro @op_min2 (And.intro @op_max2 @op_field))) (And.intro (And.intro @op_slice (And.intro @op_makeFunc @op_extract)) (And.intro @op_index (And.intro @op_indexAddr @un_not)))) (And.intro (And.intro (And.intro @un_neg (And.intro @eval_tmp @eval_int)) (And.intro @eval_bool (And.intro @eval_str @eval_func))) (And.intro (And.intro @eval_nilFunc (And.intro @eval_nilIface @eval_nilPtr)) (And.intro (And.intro @eval_nilMap @eval_nilSlice) (And.intro @eval_const @lit_str)))))) (And.intro (And.intro (And.intro (And.intro (And.intro @WVal_some (And.intro @WIf_true @WIf_false)) (And.intro @WGuard_tt (And.intro @WGuard_tf @WGuard_ft))) (And.intro (And.intro @WGuard_ff (And.intro @WGuard_n @bin_add)) (And.intro @bin_sub (And.intro @bin_mul @bin_lss)))) (And.intro (And.intro (And.intro @bin_leq (And.intro @bin_gtr @bin_geq)) (And.intro @bin_eql (And.intro @bin_neq @bin_quo))) (And.intro (And.intro @bin_rem (And.intro @bin_str @str_eql)) (And.intro (And.intro @str_neq @str_lss) (And.intro @str_leq @str_gtr))))) (And.intro (And.intro (And.intro (And.intro @str_geq (And.intro @str_add @mkStr_size)) (And.intro @pick_true (And.intro @pick_false @List.length_cons.{0}))) (And.intro (And.intro @List.length_nil.{0} (And.intro @List.cons_append.{0} @List.nil_append.{0})) (And.intro (And.intro @List.append_nil.{0} @getT_zero) (And.intro @getT_succ @putV_zero)))) (And.intro (And.intro (And.intro @putV_succ (And.intro @dget_zero @dget_succ)) (And.intro @yielded_at (And.intro @boolAt_some @boolAt_none))) (And.intro (And.intro @asBool_bool (And.intro @asBool_undef @Int.toNat_natCast)) (And.intro (And.intro @Nat.add_assoc @evals_nil) (And.intro @evals_cons @callee_func))))))) (And.intro (And.intro (And.intro (And.intro (And.intro (And.intro @callee_yield (And.intro @enter_call @enter_round)) (And.intro @Option.bind_some.{0, 0} (And.intro @Option.map_some.{0, 0} @WRet_ret))) (And.intro (And.intro @WRet_normal (And.intro @unwind_nil @results_nil)) (And.intro @results_tmp (And.intro @leave_flat @flat_int)))) (And.intro (And.intro (And.intro @flat_bool (And.intro @flat_str @flat_float)) (And.intro @flat_agg (And.intro @flatN_int @flatN_bool))) (And.intro (And.intro @flatN_str (And.intro @flatN_float @flatN_agg)) (And.intro (And.intro @List.all_cons.{0} @List.all_nil.{0}) (And.intro @Bool.and_true @Bool.true_and))))) (And.intro (And.intro (And.intro (And.intro @Bool.and_self (And.intro @extract_at @evalO_none)) (And.intro @evalO_some (And.intro @parts_nil @parts_cons))) (And.intro (And.intro @op_build (And.intro @makeFunc_some @min_int)) (And.intro (And.intro @max_int @lenV_str) (And.intro @lenV_slice @one_nil)))) (And.intro (And.intro (And.intro @one_one (And.intro @one_two @one_three)) (And.intro @decide_true (And.intro @decide_false @Bool.not_true))) (And.intro (And.intro @Bool.not_false (And.intro @op_nilCheck @nilCheck_ptr)) (And.intro (And.intro @nilCheck_func @fieldAddr_ptr) (And.intro @op_box @op_alloc)))))) (And.intro (And.intro (And.intro (And.intro (And.intro @op_load (And.intro @op_store @loadP_ptr)) (And.intro @storeP_ptr (And.intro @cells_int @cells_bool))) (And.intro (And.intro @cells_str (And.intro @cells_float @cells_agg)) (And.intro @cells_slice (And.intro @cells_ptr @cells_map)))) (And.intro (And.intro (And.intro @cells_func (And.intro @cells_nilFunc @get_mk)) (And.intro @new_mk (And.intro @look_self @strBytes_str))) (And.intro (And.intro @readBytes_nil (And.intro @op_makeSlice @op_append)) (And.intro (And.intro @op_copy @op_buildSlice) (And.intro @cellsAt_cells @cellAt_cells))))) (And.intro (And.intro (And.intro (And.intro @look_miss (And.intro @write_own @drop_own)) (And.intro @put_self (And.intro @put_miss @look_wput_ne))) (And.intro (And.intro @look_wkill_ne (And.intro @look_wput_self @unwind_cons)) (And.intro (And.intro @unwindG_none @kill_self) (And.intro @kill_miss @storeC_ok)))) (And.intro (And.intro (And.intro @results_cell (And.intro @take_all @drop_all)) (And.intro @List.take_succ_cons.{0} (And.intro @List.drop_succ_cons.{0} @List.take_zero.{0}))) (And.intro (And.intro @List.drop_zero.{0} (And.intro @Nat.mul_one @Nat.zero_add)) (And.intro (And.intro @Nat.add_zero @Nat.one_mul) (And.intro @List.getElem?_cons_zero.{0} @List.getElem?_cons_succ.{0}))))))))
abbrev RB := (And.intro (And.intro (And.intro (And.intro (And.intro @note_fa (And.intro @note_nilCheck @note_move)) (And.intro (And.intro @note_assign @note_pick) (And.intro @note_bin @note_un))) (And.intro (And.intro (And.intro @note_field @note_build) (And.intro @note_slice @note_indexAddr)) (And.intro (And.intro @note_index @note_extract) (And.intro @note_box @note_alloc)))) (And.intro (And.intro (And.intro @note_buildSlice (And.intro @note_makeSlice @note_store)) (And.intro (And.intro @note_call @note_append) (And.intro @note_copy @note_len))) (And.intro (And.intro (And.intro @note_min @note_max) (And.intro @note_convI @note_load)) (And.intro (And.intro @note_ofBytes @note_toBytes) (And.intro @WR_nil @WR_plain))))) (And.intro (And.intro (And.intro (And.intro @WR_none (And.intro @WR_guard @calmP_nil)) (And.intro (And.intro @calmP_cons @memP_nil) (And.intro @memP_cons @clash_none))) (And.intro (And.intro (And.intro @clash_none' @clash_read) (And.intro @clash_work @clash_rw)) (And.intro (And.intro @clash_wr @blockOf_ptr) (And.intro @blockOf_slice @soil_none)))) (And.intro (And.intro (And.intro (And.intro @write_other @soil_own) (And.intro @lt_ok @le_no)) (And.intro (And.intro @true_and @and_true) (And.intro @Bool.or_false @Bool.false_or))) (And.intro (And.intro (And.intro @Bool.true_or @Bool.or_true) (And.intro @Bool.false_and @Bool.and_false)) (And.intro (And.intro @and_false @false_and) (And.intro @decide_false @List.contains_nil.{0}))))))
abbrev EB := (And.intro (And.intro @putV_TT @getT_TT) (And.intro @ups_at (And.intro @ea_at @getT_nil)))
abbrev FB := (And.intro (And.intro (And.intro (And.intro (And.intro @flat_int @flat_bool) (And.intro @flat_str @flat_float)) (And.intro (And.intro @flat_agg @flatN_int) (And.intro @flatN_bool @flatN_str))) (And.intro (And.intro (And.intro @flatN_float @flatN_agg) (And.intro @List.all_cons.{0} @List.all_nil.{0})) (And.intro (And.intro @Bool.and_self @Bool.and_true) (And.intro @one_int (And.intro @one_bool @one_str))))) (And.intro (And.intro (And.intro (And.intro @one_float @one_ptr) (And.intro @one_slice @one_map)) (And.intro (And.intro @u8_one @all_u8) (And.intro @cells_int (And.intro @cells_bool @cells_str)))) (And.intro (And.intro (And.intro @cells_float @cells_agg) (And.intro @cells_slice @cells_ptr)) (And.intro (And.intro @cells_map @cells_func) (And.intro @cells_nilFunc (And.intro @List.length_cons.{0} @List.length_nil.{0}))))))
abbrev LB := (And.intro (And.intro @List.length_map.{0, 0} (And.intro @List.length_replicate.{0} @List.length_append.{0})) (And.intro (And.intro @List.length_take.{0} @List.length_drop.{0}) (And.intro @List.length_cons.{0} @List.length_nil.{0})))
end
/- Calls at one memory that were reckoned before. -/
section
open Go Go.RowKit
set_option linter.unusedVariables false
set_option linter.unusedSimpArgs false

/-- What was reckoned: function, arguments, memory; answer, memory. -/
structure Fact where
  f : FuncId
  args : List Value
  a : AW
  v : Value
  b : AW
def eqON : Option Nat → Option Nat → Bool
  | none, none => true
  | some a, some b => Nat.beq a b
  | _, _ => false
def eqAd (a b : Addr) : Bool := Nat.beq a.block b.block && (Nat.beq a.off b.off && eqON a.spot b.spot)
def eqFn : Fn → Fn → Bool
  | .func f, .func g => Nat.beq f g
  | .yield f, .yield g => Nat.beq f g
  | _, _ => false
/-- Equal values: no false yes. -/
def eqM : Nat → Value → Value → Bool
  | 0, _, _ => false
  | n + 1, v, u => match v, u with
    | .bool a, .bool b => a == b
    | .int k a, .int j b => decide (k = j) && decide (a = b)
    | .float k a, .float j b => decide (k = j) && Nat.beq a b
    | .string s, .string t => eqBytes (strOf s) (strOf t)
    | .pointer none, .pointer none => true
    | .pointer (some a), .pointer (some b) => eqAd a b
    | .slice none a b, .slice none c d => Nat.beq a c && Nat.beq b d
    | .slice (some p) a b, .slice (some q) c d => eqAd p q && (Nat.beq a c && Nat.beq b d)
    | .map a, .map b => eqON a b
    | .func f x y, .func g z w => eqFn f g && (eqList (eqM n) x.toList z.toList && eqList (eqM n) y.toList w.toList)
    | .nilFunc, .nilFunc => true
    | .nilIface, .nilIface => true
    | .iface t x, .iface s y => Nat.beq t s && eqM n x y
    | .agg c, .agg d => eqList (eqM n) c.toList d.toList
    | .tuple c, .tuple d => eqList (eqM n) c.toList d.toList
    | _, _ => false
def eqEntries : List MapEntry → List MapEntry → Bool
  | [], [] => true
  | a :: x, b :: y => (eqM 6 a.key b.key && (eqM 6 a.val b.val && Nat.beq a.born b.born)) && eqEntries x y
  | _, _ => false
def eqNats : List Nat → List Nat → Bool
  | [], [] => true
  | a :: x, b :: y => Nat.beq a b && eqNats x y
  | _, _ => false
def eqBlk : Blk → Blk → Bool
  | .cells c r, .cells d s => (r == s) && eqList (eqM 8) c d
  | .obj (.map c n), .obj (.map d m) => Nat.beq n m && eqEntries c.toList d.toList
  | .obj (.deferred none), .obj (.deferred none) => true
  | .obj (.deferred (some [])), .obj (.deferred (some [])) => true
  | .obj (.mapIter m a s b), .obj (.mapIter n c t d) => eqON m n && (Nat.beq a c && (Nat.beq b d && eqNats s.toList t.toList))
  | _, _ => false
def eqHeap : List (Nat × Blk) → List (Nat × Blk) → Bool
  | [], [] => true
  | (i, a) :: x, (j, b) :: y => Nat.beq i j && (eqBlk a b && eqHeap x y)
  | _, _ => false
def eqAW (a b : AW) : Bool := Nat.beq a.next b.next && (Nat.beq a.base b.base && (eqNats a.dirty b.dirty && eqHeap a.heap b.heap))
theorem nbeq {a b : Nat} (h : Nat.beq a b = true) : a = b := Nat.eq_of_beq_eq_true h
theorem eqON_of {a b : Option Nat} (h : eqON a b = true) : a = b := by
  unfold eqON at h
  split at h
  · rfl
  · rw [nbeq h]
  · cases h
theorem eqAd_of {a b : Addr} (h : eqAd a b = true) : a = b := by
  simp only [eqAd, Bool.and_eq_true] at h
  obtain ⟨a1, a2, a3⟩ := a
  obtain ⟨b1, b2, b3⟩ := b
  have h1 := nbeq h.1
  have h2 := nbeq h.2.1
  have h3 := eqON_of h.2.2
  simp only at h1 h2 h3
  rw [h1, h2, h3]
theorem eqFn_of {a b : Fn} (h : eqFn a b = true) : a = b := by
  unfold eqFn at h
  split at h
  · rw [nbeq h]
  · rw [nbeq h]
  · cases h
theorem eqStr_of {s t : ByteArray} (h : eqBytes (strOf s) (strOf t) = true) : s = t := by
  have := eqBytes_of h
  obtain ⟨⟨s⟩⟩ := s
  obtain ⟨⟨t⟩⟩ := t
  simp only [strOf] at this
  subst this; rfl
theorem eqM_of : ∀ n v u, eqM n v u = true → v = u := by
  intro n
  induction n with
  | zero => intro v u h; cases h
  | succ n ih =>
    intro v u h
    unfold eqM at h
    split at h
    · simpa using h
    · simp only [Bool.and_eq_true, decide_eq_true_eq] at h
      rw [h.1, h.2]
    · simp only [Bool.and_eq_true, decide_eq_true_eq] at h
      rw [h.1, nbeq h.2]
    · rw [eqStr_of h]
    · rfl
    · rw [eqAd_of h]
    · simp only [Bool.and_eq_true] at h
      rw [nbeq h.1, nbeq h.2]
    · simp only [Bool.and_eq_true] at h
      rw [eqAd_of h.1, nbeq h.2.1, nbeq h.2.2]
    · rw [eqON_of h]
    · simp only [Bool.and_eq_true] at h
      rw [eqFn_of h.1, Array.toList_inj.1 (eqList_of ih h.2.1), Array.toList_inj.1 (eqList_of ih h.2.2)]
    · rfl
    · rfl
    · simp only [Bool.and_eq_true] at h
      rw [nbeq h.1, ih _ _ h.2]
    · rw [Array.toList_inj.1 (eqList_of ih h)]
    · rw [Array.toList_inj.1 (eqList_of ih h)]
    · cases h
theorem eqEntries_of : ∀ {l m : List MapEntry}, eqEntries l m = true → l = m
  | [], [], _ => rfl
  | [], _ :: _, q => by cases q
  | _ :: _, [], q => by cases q
  | ⟨a1, a2, a3⟩ :: x, ⟨b1, b2, b3⟩ :: y, q => by
    simp only [eqEntries, Bool.and_eq_true] at q
    rw [eqM_of _ _ _ q.1.1, eqM_of _ _ _ q.1.2.1, nbeq q.1.2.2, eqEntries_of q.2]
theorem eqNats_of : ∀ {l m : List Nat}, eqNats l m = true → l = m
  | [], [], _ => rfl
  | [], _ :: _, q => by cases q
  | _ :: _, [], q => by cases q
  | a :: x, b :: y, q => by
    simp only [eqNats, Bool.and_eq_true] at q
    rw [nbeq q.1, eqNats_of q.2]
theorem eqBlk_of {a b : Blk} (h : eqBlk a b = true) : a = b := by
  unfold eqBlk at h
  split at h
  · simp only [Bool.and_eq_true, beq_iff_eq] at h
    rw [h.1, eqList_of (eqM_of 8) h.2]
  · simp only [Bool.and_eq_true] at h
    rw [nbeq h.1, Array.toList_inj.1 (eqEntries_of h.2)]
  · rfl
  · rfl
  · simp only [Bool.and_eq_true] at h
    rw [eqON_of h.1, nbeq h.2.1, nbeq h.2.2.1, Array.toList_inj.1 (eqNats_of h.2.2.2)]
  · cases h
theorem eqHeap_of : ∀ {l m : List (Nat × Blk)}, eqHeap l m = true → l = m
  | [], [], _ => rfl
  | [], _ :: _, q => by cases q
  | _ :: _, [], q => by cases q
  | (i, a) :: x, (j, b) :: y, q => by
    simp only [eqHeap, Bool.and_eq_true] at q
    rw [nbeq q.1, eqBlk_of q.2.1, eqHeap_of q.2.2]
theorem eqAW_of {a b : AW} (h : eqAW a b = true) : a = b := by
  simp only [eqAW, Bool.and_eq_true] at h
  obtain ⟨n1, h1, b1, d1⟩ := a
  obtain ⟨n2, h2, b2, d2⟩ := b
  have e1 := nbeq h.1
  have e2 := nbeq h.2.1
  have e3 := eqNats_of h.2.2.1
  have e4 := eqHeap_of h.2.2.2
  simp only at e1 e2 e3 e4
  rw [e1, e2, e3, e4]
def findF (f : FuncId) (args : List Value) (a : AW) : List Fact → Option (Value × AW)
  | [] => none
  | k :: r => if Nat.beq k.f f then (if eqList (eqM 8) k.args args then (if eqAW k.a a then some (k.v, k.b) else findF f args a r) else findF f args a r) else findF f args a r
def facts (l : List Fact) : Gives := fun f => some fun args a => findF f args.toList a l
def Fact.Holds (P : Program) (k : Fact) : Prop :=
  Evo k.a k.b ∧ ∀ ρ w args', WRel ρ k.a w → LRel ρ k.a.next k.args args'.toList → CallTo P k.f args' w fun v' w' => ∃ ρ', Step ρ k.a.next w ρ' k.b w' ∧ VRel ρ' k.b.next k.v v'
theorem findF_of {f : FuncId} {args : List Value} {a : AW} {r : Value × AW} : ∀ {l : List Fact}, findF f args a l = some r → ∃ k ∈ l, k.f = f ∧ k.args = args ∧ k.a = a ∧ (k.v, k.b) = r
  | [], h => by cases h
  | k :: l, h => by
    have go : findF f args a l = some r → ∃ k' ∈ k :: l, k'.f = f ∧ k'.args = args ∧ k'.a = a ∧ (k'.v, k'.b) = r := fun h => by
      obtain ⟨k', h1, h2⟩ := findF_of h
      exact ⟨k', by simp [h1], h2⟩
    unfold findF at h
    split at h
    · rename_i hf
      split at h
      · rename_i he
        split at h
        · rename_i hw
          cases h
          exact ⟨k, by simp, nbeq hf, eqList_of (eqM_of 8) he, eqAW_of hw, rfl⟩
        · exact go h
      · exact go h
    · exact go h
section
variable {P : Program}
/-- All of a list's facts hold. -/
def AllF (P : Program) (l : List Fact) : Prop := ∀ k ∈ l, k.Holds P
theorem facts_sound {l : List Fact} (h : AllF P l) : (facts l).Sound P := by
  refine ⟨fun f g hg ρ a w args args' v a' hw ha e => ?_, fun f g hg args a v a' hb e => ?_⟩
  · cases hg
    obtain ⟨k, hk, rfl, h1, rfl, h2⟩ := findF_of e
    cases h2
    refine (h k hk).2 ρ w args' hw ?_
    rw [h1]; exact ha
  · cases hg
    obtain ⟨k, hk, rfl, h1, rfl, h2⟩ := findF_of e
    cases h2
    exact (h k hk).1
theorem fact_more (hm : P.follows .mixedOrders = true) (hn : plainNames P = true) {l : List Fact} (hl : AllF P l) {n : Nat} {f : FuncId} {args : List Value} {a b : AW} {v : Value}
    (h : (match callA P (facts l) n f args.toArray a with
      | some (u, c) => Nat.ble a.base a.next && (eqM 8 v u && eqAW b c)
      | none => false) = true) : AllF P (⟨f, args, a, v, b⟩ :: l) := by
  intro k hk
  rcases List.mem_cons.1 hk with rfl | hk
  · split at h
    · rename_i u c hc
      simp only [Bool.and_eq_true] at h
      obtain rfl := eqM_of 8 v u h.2.1
      obtain rfl := eqAW_of h.2.2
      have hb : a.base ≤ a.next := Nat.le_of_ble_eq_true h.1
      obtain ⟨ev, sim⟩ := sound hm hn (facts_sound hl) n f args.toArray a v b hc hb
      exact ⟨ev, fun ρ w args' hw ha => sim ρ w args' hw (by simpa using ha)⟩
    · cases h
  · exact hl k hk
theorem no_facts : AllF P [] := fun k hk => by cases hk
theorem closed_facts (hm : P.follows .mixedOrders = true) (hn : plainNames P = true) {l : List Fact} (hl : AllF P l) {f : FuncId} {fn : Func} (hf : P.funcs[f]? = some fn) (hb : fn.body.isSome = true) {n : Nat} {b : Bool}
    (h : tells (callA P (facts l) n f #[] empty) b = true) (w : World) : Calls P f #[] w fun e w' => e = .returned (.bool b) ∧ Below w.heap.size w w' := by
  cases hr : callA P (facts l) n f #[] empty with
  | none => rw [hr] at h; cases h
  | some r =>
    obtain ⟨v, a'⟩ := r
    rw [hr] at h
    cases v with
    | bool c =>
      have : c = b := by simpa [tells] using h
      subst this
      exact closed_calls hm hn (facts_sound hl) hf hb rfl hr rfl w
    | _ => cases h
end
end
/- Lists, wherever they lie: read, cut, put behind lists of one's own. -/
section
open Go Go.RowKit
set_option linter.unusedVariables false
set_option linter.unusedSimpArgs false

section
variable {α : Type} {E : Program} {G : Gives}
/-- A list that is read: somewhere in a block. -/
def RV (enc : α → List Value) (z : Nat) (h : List (Nat × Blk)) (n : Nat) (v : Value) (xs : List α) : Prop :=
  (v = .slice none 0 0 ∧ xs = []) ∨ ∃ b o sp cap rw c, v = .slice (some ⟨b, o, sp⟩) xs.length cap ∧ look b h = some (.cells c rw) ∧ b < n ∧ o + xs.length * z ≤ c.length ∧ (c.drop o).take (xs.length * z) = xs.flatMap enc ∧ (sp = none ∨ sp = some 0 ∨ sp = some (z + 1)) ∧ xs.length ≤ cap
/-- A list in a block of one's own, that may grow. -/
def OwnS (enc : α → List Value) (z : Nat) (h : List (Nat × Blk)) (n q : Nat) (v : Value) (xs : List α) : Prop :=
  (v = .slice none 0 0 ∧ xs = []) ∨ ∃ sp cap c, v = .slice (some ⟨q, 0, sp⟩) xs.length cap ∧ look q h = some (.cells c true) ∧ c.take (xs.length * z) = xs.flatMap enc ∧ xs.length ≤ cap ∧ cap * z ≤ c.length ∧ (sp = some 0 ∨ sp = some (z + 1)) ∧ q < n ∧ ((∀ x, (enc x).all flat = true) → c.all flat = true)
theorem flatMap_at {enc : α → List Value} {z : Nat} (he : ∀ x, (enc x).length = z) : ∀ (xs : List α) (i : Nat) (hi : i < xs.length), ((xs.flatMap enc).drop (i * z)).take z = enc xs[i]
  | x :: xs, 0, _ => by rw [Nat.zero_mul, List.drop_zero, List.flatMap_cons, ← he x, List.take_left]; rfl
  | x :: xs, i + 1, hi => by
    rw [List.flatMap_cons, Nat.add_mul, Nat.one_mul, Nat.add_comm (i * z), ← List.drop_drop, ← he x, List.drop_left, he x, List.getElem_cons_succ]
    exact flatMap_at he xs i (by simpa using hi)
theorem RV.len {enc : α → List Value} {z h n v} {xs : List α} (hv : RV enc z h n v xs) : ∃ p c, v = .slice p xs.length c := by
  rcases hv with ⟨rfl, rfl⟩ | ⟨b, o, sp, cap, rw, c, rfl, _⟩
  · exact ⟨none, 0, rfl⟩
  · exact ⟨_, _, rfl⟩
theorem RV.keep {enc : α → List Value} {z : Nat} {h h' : List (Nat × Blk)} {n n' : Nat} {v : Value} {xs : List α} (hv : RV enc z h n v xs) (hn : n ≤ n') (hf : ∀ j, j < n → look j h' = look j h) : RV enc z h' n' v xs := by
  rcases hv with ⟨rfl, rfl⟩ | ⟨b, o, sp, cap, rw, c, rfl, hb, hl, r⟩
  · exact .inl ⟨rfl, rfl⟩
  · exact .inr ⟨_, _, _, _, _, _, rfl, by rw [hf b hl]; exact hb, by omega, r⟩
/-- Its block. -/
def blkOf (v : Value) : Option Nat := match v with
  | .slice (some p) _ _ => some p.block
  | _ => none
theorem RV.keepB {enc : α → List Value} {z : Nat} {h h' : List (Nat × Blk)} {n n' : Nat} {v : Value} {xs : List α} (hv : RV enc z h n v xs) (hn : n ≤ n') (hf : ∀ j, blkOf v = some j → look j h' = look j h) : RV enc z h' n' v xs := by
  rcases hv with ⟨rfl, rfl⟩ | ⟨b, o, sp, cap, rw, c, rfl, hb, hl, r⟩
  · exact .inl ⟨rfl, rfl⟩
  · exact .inr ⟨_, _, _, _, _, _, rfl, by rw [hf b rfl]; exact hb, by omega, r⟩
theorem ListV.rv {enc : α → List Value} {z : Nat} (he : ∀ x, (enc x).length = z) {h n v} {xs : List α} (hv : ListV enc h n v xs) (hs : ∀ b sp len cap, v = .slice (some ⟨b, 0, sp⟩) len cap → (sp = none ∨ sp = some 0 ∨ sp = some (z + 1)) ∧ len ≤ cap) : RV enc z h n v xs := by
  rcases hv with ⟨rfl, rfl⟩ | ⟨b, sp, cap, rw, rfl, hb, hl⟩
  · exact .inl ⟨rfl, rfl⟩
  · have := flatMap_len he xs
    obtain ⟨h1, h2⟩ := hs b sp _ _ rfl
    exact .inr ⟨b, 0, sp, cap, rw, _, rfl, hb, hl, by omega, by rw [List.drop_zero, ← this, List.take_length], h1, h2⟩
theorem SliceR.rv {enc : α → List Value} {Good : α → Prop} {z : Nat} {xs : List α} {h : List (Nat × Blk)} {n : Nat} {v : Value} (he : ∀ x, (enc x).length = z) (hr : SliceR (FlatR enc Good) z xs h n [v]) : RV enc z h n v xs ∧ ∀ x ∈ xs, Good x := by
  obtain ⟨h1, h2⟩ := hr.listV
  refine ⟨h1.rv he fun b sp len cap e => ?_, h2⟩
  rcases hr with ⟨e1, _⟩ | ⟨q, acs, e1, _⟩
  · rw [List.singleton_inj] at e1
    rw [e1] at e; cases e
  · rw [List.singleton_inj] at e1
    rw [e1] at e; cases e
    exact ⟨.inl rfl, Nat.le_refl _⟩
theorem OwnS.rv {enc : α → List Value} {z : Nat} {h : List (Nat × Blk)} {q n : Nat} {v : Value} {xs : List α} (hv : OwnS enc z h n q v xs) : RV enc z h n v xs := by
  rcases hv with ⟨rfl, rfl⟩ | ⟨sp, cap, c, rfl, hb, ht, h1, h2, h3, hq, _⟩
  · exact .inl ⟨rfl, rfl⟩
  · have := Nat.mul_le_mul_right z h1
    exact .inr ⟨q, 0, sp, cap, true, c, rfl, hb, hq, by omega, by rw [List.drop_zero]; exact ht, .inr h3, h1⟩
theorem OwnS.nil {enc : α → List Value} {z : Nat} {h : List (Nat × Blk)} {n q : Nat} : OwnS enc z h n q (.slice none 0 0) ([] : List α) := .inl ⟨rfl, rfl⟩
theorem OwnS.made {enc : α → List Value} {z : Nat} {h : List (Nat × Blk)} {n q : Nat} (hb : look q h = some (.cells [] true)) (hq : q < n) : OwnS enc z h n q (.slice (some ⟨q, 0, some 0⟩) 0 0) ([] : List α) :=
  .inr ⟨some 0, 0, [], rfl, hb, by simp, Nat.le_refl _, by simp, .inl rfl, hq, fun _ => rfl⟩
theorem OwnS.len {enc : α → List Value} {z h n q v} {xs : List α} (hv : OwnS enc z h n q v xs) : ∃ p c, v = .slice p xs.length c := by
  rcases hv with ⟨rfl, rfl⟩ | ⟨sp, cap, c, rfl, _⟩
  · exact ⟨none, 0, rfl⟩
  · exact ⟨_, _, rfl⟩
theorem OwnS.keep {enc : α → List Value} {z : Nat} {h h' : List (Nat × Blk)} {n n' q : Nat} {v : Value} {xs : List α} (hv : OwnS enc z h n q v xs) (hn : n ≤ n') (hh : q < n → look q h' = look q h) : OwnS enc z h' n' q v xs := by
  rcases hv with hv | ⟨sp, cap, c, e, hb, r1, r2, r3, r4, r5, r6⟩
  · exact .inl hv
  · exact .inr ⟨sp, cap, c, e, by rw [hh r5]; exact hb, r1, r2, r3, r4, by omega, r6⟩
/-- The element at a place. -/
theorem RV.at {enc : α → List Value} {z : Nat} (he : ∀ x, (enc x).length = z) {h : List (Nat × Blk)} {n : Nat} {p : Option Addr} {cp : Nat} {xs : List α} (hv : RV enc z h n (.slice p xs.length cp) xs) {i : Nat} (hi : i < xs.length) :
    ∃ b o sp rw c, p = some ⟨b, o, sp⟩ ∧ look b h = some (.cells c rw) ∧ b < n ∧ o + i * z + z ≤ c.length ∧ (c.drop (o + i * z)).take z = enc xs[i] ∧ ∀ k, k < z → c[o + i * z + k]? = (enc xs[i])[k]? := by
  rcases hv with ⟨e, rfl⟩ | ⟨b, o, sp, cap, rw, c, e, hb, hl, hc, ht, _⟩
  · simp at hi
  · cases e
    have h1 : i * z + z ≤ xs.length * z := by
      have := Nat.mul_le_mul_right z (show i + 1 ≤ xs.length from hi)
      rw [Nat.add_mul, Nat.one_mul] at this; exact this
    have h2 : (c.drop (o + i * z)).take z = enc xs[i] := by
      rw [← flatMap_at he xs i hi, ← ht, List.drop_take, List.take_take, List.drop_drop, Nat.min_eq_left (by omega)]
    refine ⟨b, o, sp, rw, c, rfl, hb, hl, by omega, h2, fun k hk => ?_⟩
    rw [← h2, List.getElem?_take_of_lt hk, List.getElem?_drop]
/-- A slice of a slice. -/
theorem slice_at {ty e : TypeId} {z : Nat} (hu : E.underlying ty = some (.slice e)) (hz : typeSize E e = some z) {p : Addr} {len cap : Nat} (hsp : p.spot = none ∨ p.spot = some 0 ∨ p.spot = some (z + 1)) {lo hi : Option Value} {l r m : Nat} (hb : boundsA len cap lo hi none = some (l, r, m)) :
    sliceA E ty (.slice (some p) len cap) lo hi none = some (.slice (some ⟨p.block, if p.spot = some 0 ∧ m = l then p.off else p.off + l * z, p.spot⟩) (r - l) (m - l)) := by
  have hc : ¬ (p.spot ≠ some 0 ∧ p.spot ≠ none ∧ p.spot ≠ some (z + 1)) := by
    rintro ⟨h1, h2, h3⟩
    rcases hsp with h | h | h <;> contradiction
  simp only [sliceA, hu, hz, Option.isSome_none, hb, Option.map_some, Bool.false_eq_true, false_or, if_false, true_and]
  rw [if_neg hc]
theorem slice_nil {ty e : TypeId} {z : Nat} (hu : E.underlying ty = some (.slice e)) (hz : typeSize E e = some z) {len cap : Nat} {lo hi : Option Value} {l r m : Nat} (hb : boundsA len cap lo hi none = some (l, r, m)) :
    sliceA E ty (.slice none len cap) lo hi none = some (.slice none (r - l) (m - l)) := by
  simp only [sliceA, hu, hz, hb, Option.map_some]
theorem RV.part {enc : α → List Value} {z : Nat} (he : ∀ x, (enc x).length = z) {ty e : TypeId} (hu : E.underlying ty = some (.slice e)) (hz : typeSize E e = some z) {h : List (Nat × Blk)} {n : Nat} {v : Value} {xs : List α} (hv : RV enc z h n v xs) {lo hi : Option Value} {l r : Nat} (hlr : l ≤ r) (hr : r ≤ xs.length)
    (hb : ∀ cap, xs.length ≤ cap → boundsA xs.length cap lo hi none = some (l, r, cap)) : ∃ v', sliceA E ty v lo hi none = some v' ∧ RV enc z h n v' ((xs.take r).drop l) ∧ (∀ j, blkOf v' = some j → blkOf v = some j) := by
  have hlen : ((xs.take r).drop l).length = r - l := by rw [List.length_drop, List.length_take]; omega
  rcases hv with ⟨rfl, rfl⟩ | ⟨b, o, sp, cap, rw, c, rfl, hb', hl, hc, ht, hsp, hcap⟩
  · refine ⟨_, slice_nil hu hz (hb 0 (Nat.le_refl _)), .inl ⟨?_, by simp⟩, fun j hj => by cases hj⟩
    simp at hr
    have : r = 0 := hr
    simp [this]
  · refine ⟨_, slice_at hu hz hsp (hb cap hcap), .inr ⟨b, _, sp, cap - l, rw, c, by rw [hlen], hb', hl, ?_, ?_, hsp, by omega⟩, fun j hj => hj⟩
    · rw [hlen]
      have h1 : r * z ≤ xs.length * z := Nat.mul_le_mul_right z hr
      have h2 : l * z ≤ r * z := Nat.mul_le_mul_right z hlr
      rw [Nat.sub_mul]
      simp only
      split <;> omega
    · rw [hlen]
      simp only
      have hall := flatMap_len he xs
      have hd : ∀ k ≤ xs.length, (xs.flatMap enc).drop (k * z) = (xs.drop k).flatMap enc := by
        intro k hk
        have e1 : xs = xs.take k ++ xs.drop k := (List.take_append_drop k xs).symm
        have e2 : ((xs.take k).flatMap enc).length = k * z := by rw [flatMap_len he, List.length_take, Nat.min_eq_left hk]
        conv => lhs; rw [e1, List.flatMap_append, ← e2, List.drop_left]
      have hsub : r - l = 0 ∨ ¬ (sp = some 0 ∧ cap = l) := by
        by_cases h0 : r - l = 0
        · exact .inl h0
        · right; rintro ⟨_, h2⟩; omega
      rcases hsub with h0 | h0
      · rw [h0, Nat.zero_mul, List.take_zero]
        have : (xs.take r).drop l = [] := List.eq_nil_of_length_eq_zero (by rw [hlen]; exact h0)
        rw [this]; rfl
      · rw [if_neg h0]
        have h1 : r * z ≤ xs.length * z := Nat.mul_le_mul_right z hr
        have h2 : l * z ≤ r * z := Nat.mul_le_mul_right z hlr
        have e3 : (c.drop (o + l * z)).take ((r - l) * z) = (((c.drop o).take (xs.length * z)).drop (l * z)).take ((r - l) * z) := by
          rw [List.drop_take, List.take_take, List.drop_drop, Nat.sub_mul, Nat.min_eq_left (by omega)]
        rw [e3, ht, hd l (by omega)]
        have e4 : (xs.take r).drop l = (xs.drop l).take (r - l) := by rw [List.drop_take]
        rw [e4]
        have e5 : ∀ (ys : List α) k, k ≤ ys.length → (ys.flatMap enc).take (k * z) = (ys.take k).flatMap enc := by
          intro ys k hk
          have e1 : ys = ys.take k ++ ys.drop k := (List.take_append_drop k ys).symm
          have e2 : ((ys.take k).flatMap enc).length = k * z := by rw [flatMap_len he, List.length_take, Nat.min_eq_left hk]
          conv => lhs; rw [e1, List.flatMap_append, ← e2, List.take_left]
        exact e5 _ _ (by rw [List.length_drop]; omega)
theorem bnd_lo {k : IntKind} {i : Int} {len cap : Nat} (h0 : 0 ≤ i) (h1 : i ≤ len) : boundsA len cap (some (.int k i)) none none = some (i.toNat, len, cap) := by
  simp [boundsA, boundA, h0, h1]
theorem bnd_hi {k : IntKind} {i : Int} {len cap : Nat} (h0 : 0 ≤ i) (h1 : i ≤ cap) : boundsA len cap none (some (.int k i)) none = some (0, i.toNat, cap) := by
  simp [boundsA, boundA, h0, h1]
theorem bnd_both {k k' : IntKind} {i j : Int} {len cap : Nat} (h0 : 0 ≤ i) (h1 : i ≤ j) (h2 : j ≤ cap) : boundsA len cap (some (.int k i)) (some (.int k' j)) none = some (i.toNat, j.toNat, cap) := by
  have h4 : 0 ≤ j := by omega
  have h5 : i ≤ (j.toNat : Int) := by rw [Int.toNat_of_nonneg h4]; exact h1
  have e1 : boundA (.int k' j) cap = some j.toNat := by simp only [boundA]; rw [if_pos ⟨h4, h2⟩]
  have e2 : boundA (.int k i) j.toNat = some i.toNat := by simp only [boundA]; rw [if_pos ⟨h0, h5⟩]
  simp only [boundsA, e1, e2, Option.map_some]
theorem RV.lo {enc : α → List Value} {z : Nat} (he : ∀ x, (enc x).length = z) {ty e : TypeId} (hu : E.underlying ty = some (.slice e)) (hz : typeSize E e = some z) {h : List (Nat × Blk)} {n : Nat} {v : Value} {xs : List α} (hv : RV enc z h n v xs) {k : IntKind} {i : Int} (h0 : 0 ≤ i) (h1 : i ≤ xs.length) :
    ∃ v', sliceA E ty v (some (.int k i)) none none = some v' ∧ RV enc z h n v' (xs.drop i.toNat) ∧ (∀ j, blkOf v' = some j → blkOf v = some j) := by
  obtain ⟨v', e1, e2, e3⟩ := hv.part he hu hz (l := i.toNat) (r := xs.length) (lo := some (.int k i)) (hi := none) (by omega) (Nat.le_refl _) fun cap hc => bnd_lo h0 h1
  exact ⟨v', e1, by rw [List.take_length] at e2; exact e2, e3⟩
theorem RV.hi {enc : α → List Value} {z : Nat} (he : ∀ x, (enc x).length = z) {ty e : TypeId} (hu : E.underlying ty = some (.slice e)) (hz : typeSize E e = some z) {h : List (Nat × Blk)} {n : Nat} {v : Value} {xs : List α} (hv : RV enc z h n v xs) {k : IntKind} {i : Int} (h0 : 0 ≤ i) (h1 : i ≤ xs.length) :
    ∃ v', sliceA E ty v none (some (.int k i)) none = some v' ∧ RV enc z h n v' (xs.take i.toNat) ∧ (∀ j, blkOf v' = some j → blkOf v = some j) := by
  obtain ⟨v', e1, e2, e3⟩ := hv.part he hu hz (l := 0) (r := i.toNat) (lo := none) (hi := some (.int k i)) (by omega) (by omega) fun cap hc => bnd_hi h0 (by omega)
  exact ⟨v', e1, by rw [List.drop_zero] at e2; exact e2, e3⟩
theorem RV.both {enc : α → List Value} {z : Nat} (he : ∀ x, (enc x).length = z) {ty e : TypeId} (hu : E.underlying ty = some (.slice e)) (hz : typeSize E e = some z) {h : List (Nat × Blk)} {n : Nat} {v : Value} {xs : List α} (hv : RV enc z h n v xs) {k k' : IntKind} {i j : Int} (h0 : 0 ≤ i) (h1 : i ≤ j) (h2 : j ≤ xs.length) :
    ∃ v', sliceA E ty v (some (.int k i)) (some (.int k' j)) none = some v' ∧ RV enc z h n v' ((xs.take j.toNat).drop i.toNat) ∧ (∀ j, blkOf v' = some j → blkOf v = some j) :=
  hv.part he hu hz (l := i.toNat) (r := j.toNat) (lo := some (.int k i)) (hi := some (.int k' j)) (by omega) (by omega) fun cap hc => bnd_both h0 h1 (by omega)
theorem allOne {enc : α → List Value} (ho1 : ∀ x, (enc x).all Value.oneCell' = true) (l : List α) : (l.flatMap enc).all Value.oneCell' = true := by
  rw [List.all_eq_true]
  intro u hu
  obtain ⟨x, _, hx⟩ := List.mem_flatMap.1 hu
  exact List.all_eq_true.1 (ho1 x) u hx
theorem allFlat {enc : α → List Value} (hf : ∀ x, (enc x).all flat = true) (l : List α) : (l.flatMap enc).all flat = true := by
  rw [List.all_eq_true]
  intro u hu
  obtain ⟨x, _, hx⟩ := List.mem_flatMap.1 hu
  exact List.all_eq_true.1 (hf x) u hx
theorem RV.cells {enc : α → List Value} {z : Nat} {h : List (Nat × Blk)} {n n' bs : Nat} {d : List Nat} {v : Value} {xs : List α} (hv : RV enc z h n v xs) : lenA v = some xs.length ∧ sliceCells z v ⟨n', h, bs, d⟩ = some (xs.flatMap enc) := by
  rcases hv with ⟨rfl, rfl⟩ | ⟨b, o, sp, cap, rw, c, rfl, hb, hl, hc, ht, _⟩
  · exact ⟨rfl, rfl⟩
  · refine ⟨rfl, ?_⟩
    rw [sliceCells_at (p := ⟨b, o, sp⟩) (by rw [get_mk]; exact hb) hc, ht]
/-- What an append within the room there is answers. -/
theorem append_fit {t0 t1 : TypeId} {z : Nat} (hk : appOk E t0 t1 z = true) {a : AW} {x : Value} {n : Nat} {new : List Value} (hn : lenA x = some n) (hx : sliceCells z x a = some new) (hnl : new.length = n * z) (ho : new.all Value.oneCell' = true) {p : Addr} {len cap : Nat} (hc : len + n ≤ cap) {c : List Value} (hg : a.get p.block = some (.cells c true)) (hl : p.off + (len + n) * z ≤ c.length) :
    builtinA E .append #[t0, t1] [.slice (some p) len cap, x] a = some (.slice (some p) (len + n) cap, a.write p.block (.cells (c.take (p.off + len * z) ++ (new ++ c.drop (p.off + len * z + new.length))) true)) := by
  unfold appOk appOkB at hk
  split at hk
  · rename_i e z' xd he hxd
    simp only [Bool.and_eq_true, beq_iff_eq] at hk
    obtain ⟨⟨⟨rfl, h1⟩, h2⟩, h3⟩ := hk
    show appendA E #[t0, t1] (.slice (some p) len cap) x a = _
    unfold appendA
    have e0 : (#[t0, t1] : Array TypeId)[0]? = some t0 := rfl
    have e1 : (#[t0, t1] : Array TypeId)[1]? = some t1 := rfl
    rw [e0, e1]
    simp only [he, hxd, hn]
    have f1 := firstA_all hn hx
    have hst : a.storeN { p with off := p.off + len * z' } new = some (a.write p.block (.cells (c.take (p.off + len * z') ++ (new ++ c.drop (p.off + len * z' + new.length))) true)) := by
      simp only [AW.storeN, hg]
      rw [if_pos ⟨by rw [hnl]; rw [Nat.add_mul] at hl; omega, ho⟩]
    cases xd with
    | int k => cases h1
    | _ => simp [f1, hc, hst]
  · cases hk
/-- A list put behind one of one's own. -/
theorem append_own {enc : α → List Value} {t0 t1 : TypeId} {z : Nat} (hk : appOk E t0 t1 z = true) (he : ∀ x, (enc x).length = z) (ho1 : ∀ x, (enc x).all Value.oneCell' = true)
    {h : List (Nat × Blk)} {n q bs m : Nat} {d : List Nat} {v x : Value} {xs ys : List α} (ho : OwnS enc z h n q v xs) (hy : RV enc z h m x ys) (hl : xs.length + ys.length ≤ 1000000) :
    ∃ v' q' n' h' d', builtinA E .append #[t0, t1] [v, x] ⟨n, h, bs, d⟩ = some (v', ⟨n', h', bs, d'⟩) ∧ OwnS enc z h' n' q' v' (xs ++ ys) ∧ n ≤ n' ∧ n' ≤ n + 1 ∧ (q' = q ∨ n ≤ q') ∧ (∀ j, j < n → j ≠ q → look j h' = look j h) ∧ (d' = d ∨ d' = soilW bs d q) := by
  have hflat := flatMap_len he
  obtain ⟨hlen, hcells⟩ := RV.cells (n' := n) (bs := bs) (d := d) hy
  rcases ho with ⟨rfl, rfl⟩ | ⟨sp, cap, c, rfl, hb, ht, h1, h2, h3, hq, hcf⟩
  · by_cases hys : ys = []
    · subst hys
      exact ⟨_, q, n, h, d, append_none hk hlen hcells, .inl ⟨rfl, rfl⟩, Nat.le_refl _, by omega, .inl rfl, fun _ _ _ => rfl, .inl rfl⟩
    · have hpos : 0 < ys.length := List.length_pos_iff.2 hys
      refine ⟨_, n, n + 1, _, d, append_nil (cp := 0) hk hlen hcells hpos (by simpa using hl) (allOne ho1 ys), .inr ⟨some (z + 1), ys.length, ys.flatMap enc, rfl, look_self, ?_, Nat.le_refl _, ?_, .inr rfl, by omega, fun hf => allFlat hf ys⟩, by omega, by omega, .inr (Nat.le_refl _), fun j hj _ => look_miss (Nat.ne_of_lt hj), .inl rfl⟩
      · rw [List.nil_append, ← hflat ys, List.take_length]
      · rw [hflat]; exact Nat.le_refl _
  · have hxz := Nat.mul_le_mul_right z h1
    have hcl : (xs.flatMap enc).length = xs.length * z := hflat xs
    by_cases hfit : xs.length + ys.length ≤ cap
    · have hz2 := Nat.mul_le_mul_right z hfit
      rw [Nat.add_mul] at hz2
      have hap := append_fit (E := E) (a := ⟨n, h, bs, d⟩) (p := ⟨q, 0, sp⟩) hk hlen hcells (hflat ys) (allOne ho1 ys) hfit (by rw [get_mk]; exact hb) (by simp only [Nat.zero_add]; rw [Nat.add_mul]; omega)
      simp only [Nat.zero_add] at hap
      rw [write_soil] at hap
      refine ⟨_, q, n, _, _, hap, .inr ⟨sp, cap, _, by simp, by rw [look_wput_self, hb]; rfl, ?_, by rw [List.length_append]; exact hfit, ?_, h3, hq, fun hf => ?_⟩, Nat.le_refl _, by omega, .inl rfl, fun j _ hj => look_wput_ne hj, .inr rfl⟩
      · rw [ht, List.length_append, Nat.add_mul, List.flatMap_append, ← List.append_assoc, List.take_append_of_le_length (by rw [List.length_append, hflat, hflat]; exact Nat.le_refl _)]
        rw [← hflat xs, ← hflat ys, ← List.length_append, List.take_length]
      · rw [ht]
        simp only [List.length_append, List.length_drop, hflat]
        omega
      · have hc := hcf hf
        rw [ht]
        simp only [List.all_append, allFlat hf, Bool.true_and]
        rw [List.all_eq_true] at hc ⊢
        exact fun u hu => hc u (List.mem_of_mem_drop hu)
    · have hw : sliceCells z (.slice (some ⟨q, 0, sp⟩) xs.length cap) ⟨n, h, bs, d⟩ = some (xs.flatMap enc) := by
        rw [sliceCells_at (p := ⟨q, 0, sp⟩) (by rw [get_mk]; exact hb) (by simp only; omega), List.drop_zero, ht]
      have hfin : OwnS enc z ((n, Blk.cells (xs.flatMap enc ++ ys.flatMap enc) true) :: h) (n + 1) n (.slice (some ⟨n, 0, some (z + 1)⟩) (xs.length + ys.length) (xs.length + ys.length)) (xs ++ ys) := by
        refine .inr ⟨some (z + 1), _, _, by rw [List.length_append], look_self, ?_, by rw [List.length_append]; exact Nat.le_refl _, ?_, .inr rfl, Nat.lt_succ_self _, fun hf => by rw [List.all_append, allFlat hf, allFlat hf]; rfl⟩
        · rw [List.length_append, Nat.add_mul, ← hflat xs, ← hflat ys, ← List.length_append, List.take_length, List.flatMap_append]
        · rw [List.length_append, hflat, hflat, Nat.add_mul]; exact Nat.le_refl _
      rcases h3 with rfl | rfl
      · have hap := append_made (E := E) (p := ⟨q, 0, some 0⟩) hk hlen hcells rfl hw (by omega) hl (allOne ho1 ys)
        exact ⟨_, n, n + 1, _, d, hap, hfin, by omega, by omega, .inr (Nat.le_refl _), fun j hj _ => look_miss (Nat.ne_of_lt hj), .inl rfl⟩
      · have hap := append_grown (E := E) (p := ⟨q, 0, some (z + 1)⟩) hk hlen hcells rfl hw (by omega) hl (allOne ho1 ys)
        rw [drop_soil] at hap
        exact ⟨_, n, n + 1, _, _, hap, hfin.keep (Nat.le_refl _) (fun _ => by simp [look, AW.new]), by omega, by omega, .inr (Nat.le_refl _), fun j hj hq' => by
          show look j ((n, _) :: kill q h) = look j h
          rw [look_miss (Nat.ne_of_lt hj), look_wkill_ne hq'], .inr rfl⟩
/-- A text put behind bytes of one's own. -/
def encU (b : UInt8) : List Value := [u8 b]
theorem encU_len (x : UInt8) : (encU x).length = 1 := rfl
theorem encU_one (x : UInt8) : (encU x).all Value.oneCell' = true := rfl
theorem encU_flat (x : UInt8) : (encU x).all flat = true := rfl
theorem encU_map (l : List UInt8) : l.flatMap encU = l.map u8 := by
  induction l with
  | nil => rfl
  | cons b l ih => rw [List.flatMap_cons, ih]; rfl
theorem append_str {t0 t1 : TypeId} (hk : appOk E t0 t1 1 = true) {h : List (Nat × Blk)} {n q bs : Nat} {d : List Nat} {v : Value} {xs ys : List UInt8} (ho : OwnS encU 1 h n q v xs) (hl : xs.length + ys.length ≤ 1000000) :
    ∃ v' q' n' h' d', builtinA E .append #[t0, t1] [v, .string (mkStr ys)] ⟨n, h, bs, d⟩ = some (v', ⟨n', h', bs, d'⟩) ∧ OwnS encU 1 h' n' q' v' (xs ++ ys) ∧ n ≤ n' ∧ n' ≤ n + 1 ∧ (q' = q ∨ n ≤ q') ∧ (∀ j, j < n → j ≠ q → look j h' = look j h) ∧ (d' = d ∨ d' = soilW bs d q) := by
  have hflat := flatMap_len encU_len
  have hlen : lenA (.string (mkStr ys)) = some ys.length := rfl
  have hcells : sliceCells 1 (.string (mkStr ys)) ⟨n, h, bs, d⟩ = some (ys.flatMap encU) := by rw [encU_map]; rfl
  rcases ho with ⟨rfl, rfl⟩ | ⟨sp, cap, c, rfl, hb, ht, h1, h2, h3, hq, hcf⟩
  · by_cases hys : ys = []
    · subst hys
      exact ⟨_, q, n, h, d, append_none hk hlen hcells, .inl ⟨rfl, rfl⟩, Nat.le_refl _, by omega, .inl rfl, fun _ _ _ => rfl, .inl rfl⟩
    · have hpos : 0 < ys.length := List.length_pos_iff.2 hys
      refine ⟨_, n, n + 1, _, d, append_nil (cp := 0) hk hlen hcells hpos (by simpa using hl) (allOne encU_one ys), .inr ⟨some 2, ys.length, ys.flatMap encU, rfl, look_self, ?_, Nat.le_refl _, ?_, .inr rfl, by omega, fun hf => allFlat hf ys⟩, by omega, by omega, .inr (Nat.le_refl _), fun j hj _ => look_miss (Nat.ne_of_lt hj), .inl rfl⟩
      · rw [List.nil_append, ← hflat ys, List.take_length]
      · rw [hflat]; exact Nat.le_refl _
  · have hcl : (xs.flatMap encU).length = xs.length * 1 := hflat xs
    by_cases hfit : xs.length + ys.length ≤ cap
    · have hap := append_fit (E := E) (a := ⟨n, h, bs, d⟩) (p := ⟨q, 0, sp⟩) hk hlen hcells (hflat ys) (allOne encU_one ys) hfit (by rw [get_mk]; exact hb) (by simp only [Nat.zero_add]; omega)
      simp only [Nat.zero_add] at hap
      rw [write_soil] at hap
      refine ⟨_, q, n, _, _, hap, .inr ⟨sp, cap, _, by simp, by rw [look_wput_self, hb]; rfl, ?_, by rw [List.length_append]; exact hfit, ?_, h3, hq, fun hf => ?_⟩, Nat.le_refl _, by omega, .inl rfl, fun j _ hj => look_wput_ne hj, .inr rfl⟩
      · rw [ht, List.length_append, Nat.add_mul, List.flatMap_append, ← List.append_assoc, List.take_append_of_le_length (by rw [List.length_append, hflat, hflat]; exact Nat.le_refl _)]
        rw [← hflat xs, ← hflat ys, ← List.length_append, List.take_length]
      · rw [ht]
        simp only [List.length_append, List.length_drop, hflat]
        omega
      · have hc := hcf hf
        rw [ht]
        simp only [List.all_append, allFlat hf, Bool.true_and]
        rw [List.all_eq_true] at hc ⊢
        exact fun u hu => hc u (List.mem_of_mem_drop hu)
    · have hw : sliceCells 1 (.slice (some ⟨q, 0, sp⟩) xs.length cap) ⟨n, h, bs, d⟩ = some (xs.flatMap encU) := by
        rw [sliceCells_at (p := ⟨q, 0, sp⟩) (by rw [get_mk]; exact hb) (by simp only; omega), List.drop_zero, ht]
      have hfin : OwnS encU 1 ((n, Blk.cells (xs.flatMap encU ++ ys.flatMap encU) true) :: h) (n + 1) n (.slice (some ⟨n, 0, some 2⟩) (xs.length + ys.length) (xs.length + ys.length)) (xs ++ ys) := by
        refine .inr ⟨some 2, _, _, by rw [List.length_append], look_self, ?_, by rw [List.length_append]; exact Nat.le_refl _, ?_, .inr rfl, Nat.lt_succ_self _, fun hf => by rw [List.all_append, allFlat hf, allFlat hf]; rfl⟩
        · rw [List.length_append, Nat.add_mul, ← hflat xs, ← hflat ys, ← List.length_append, List.take_length, List.flatMap_append]
        · rw [List.length_append, hflat, hflat, Nat.add_mul]; exact Nat.le_refl _
      rcases h3 with rfl | rfl
      · have hap := append_made (E := E) (p := ⟨q, 0, some 0⟩) hk hlen hcells rfl hw (by omega) hl (allOne encU_one ys)
        exact ⟨_, n, n + 1, _, d, hap, hfin, by omega, by omega, .inr (Nat.le_refl _), fun j hj _ => look_miss (Nat.ne_of_lt hj), .inl rfl⟩
      · have hap := append_grown (E := E) (p := ⟨q, 0, some 2⟩) hk hlen hcells rfl hw (by omega) hl (allOne encU_one ys)
        rw [drop_soil] at hap
        exact ⟨_, n, n + 1, _, _, hap, hfin.keep (Nat.le_refl _) (fun _ => by simp [look, AW.new]), by omega, by omega, .inr (Nat.le_refl _), fun j hj hq' => by
          show look j ((n, _) :: kill q h) = look j h
          rw [look_miss (Nat.ne_of_lt hj), look_wkill_ne hq'], .inr rfl⟩
/-- A list of one's own that is handed back: it lies in the first new block. -/
theorem leave_own {enc : α → List Value} {z : Nat} (hf : ∀ x, (enc x).all flat = true) {h : List (Nat × Blk)} {n q bs : Nat} {v : Value} {xs : List α} {a : AW} (ho : OwnS enc z h n q v xs) (hq : a.next ≤ q) {K : Value → AW → Prop}
    (hK : ∀ v' n' h', a.next ≤ n' → n' ≤ a.next + 1 → OwnS enc z h' n' a.next v' xs → (∀ j, j < a.next → look j h' = look j a.heap) → (v' = .slice none 0 0 ↔ v = .slice none 0 0) → K v' ⟨n', h', a.base, a.dirty⟩) :
    K (oneOf (leaveA a [v] ⟨n, h, bs, []⟩).1) (leaveA a [v] ⟨n, h, bs, []⟩).2 := by
  rcases ho with ⟨rfl, rfl⟩ | ⟨sp, cap, c, rfl, hb, ht, h1, h2, h3, hqn, hcf⟩
  · rw [leave_flat rfl]
    exact hK _ a.next a.heap (Nat.le_refl _) (by omega) (.inl ⟨rfl, rfl⟩) (fun _ _ => rfl) Iff.rfl
  · rw [leave_fresh (p := ⟨q, 0, sp⟩) hq hb (hcf hf)]
    exact hK _ (a.next + 1) ((a.next, .cells c true) :: a.heap) (by omega) (Nat.le_refl _) (.inr ⟨sp, cap, c, rfl, look_self, ht, h1, h2, h3, by omega, hcf⟩) (fun j hj => look_miss (by omega)) (by simp [oneOf])
theorem leave_own2 {enc : α → List Value} {z : Nat} (hf : ∀ x, (enc x).all flat = true) {h : List (Nat × Blk)} {n q bs : Nat} {v u : Value} {xs : List α} {a : AW} (hu : flat u = true) (ho : OwnS enc z h n q v xs) (hq : a.next ≤ q) {K : Value → AW → Prop}
    (hK : ∀ v' n' h', a.next ≤ n' → n' ≤ a.next + 1 → OwnS enc z h' n' a.next v' xs → (∀ j, j < a.next → look j h' = look j a.heap) → (v' = .slice none 0 0 ↔ v = .slice none 0 0) → K (.tuple #[v', u]) ⟨n', h', a.base, a.dirty⟩) :
    K (oneOf (leaveA a [v, u] ⟨n, h, bs, []⟩).1) (leaveA a [v, u] ⟨n, h, bs, []⟩).2 := by
  rcases ho with ⟨rfl, rfl⟩ | ⟨sp, cap, c, rfl, hb, ht, h1, h2, h3, hqn, hcf⟩
  · rw [leave_flat (by rw [List.all_cons, List.all_cons, hu]; rfl)]
    exact hK _ a.next a.heap (Nat.le_refl _) (by omega) (.inl ⟨rfl, rfl⟩) (fun _ _ => rfl) Iff.rfl
  · rw [leave_fresh2 hu (p := ⟨q, 0, sp⟩) hq hb (hcf hf)]
    exact hK _ (a.next + 1) ((a.next, .cells c true) :: a.heap) (by omega) (Nat.le_refl _) (.inr ⟨sp, cap, c, rfl, look_self, ht, h1, h2, h3, by omega, hcf⟩) (fun j hj => look_miss (by omega)) (by simp [oneOf])
end
end
end Go.Proofs.YtpcaoohacgkeiaaAM
