/- Chapter 3: the document's device. -/
import Derived.Test.YtgdmgolmeeigdaaD14
namespace Go.Proofs.YtgdmgolmeeigdaaAM
open Go Go.RowKit
set_option linter.unusedVariables false
set_option linter.unusedSimpArgs false
set_option maxRecDepth 10000
set_option maxHeartbeats 4000000

/-- A list that a block of its own holds: nil, or grown by append. -/
def OwnL {α : Type} (enc : α → List Value) (y : Nat) (h : List (Nat × Blk)) (q : Nat) (v : Value) (xs : List α) : Prop :=
  (v = .slice none 0 0 ∧ xs = []) ∨ (v = .slice (some ⟨q, 0, some y⟩) xs.length xs.length ∧ xs ≠ [] ∧ look q h = some (.cells (xs.flatMap enc) true))
theorem OwnL.shape {α : Type} {enc : α → List Value} {y : Nat} {h : List (Nat × Blk)} {q : Nat} {v : Value} {xs : List α} (hv : OwnL enc y h q v xs) : ∃ p c, v = .slice p xs.length c := by
  rcases hv with ⟨rfl, rfl⟩ | ⟨rfl, _⟩
  · exact ⟨none, 0, rfl⟩
  · exact ⟨_, _, rfl⟩
theorem OwnL.keep {α : Type} {enc : α → List Value} {y : Nat} {h h' : List (Nat × Blk)} {q : Nat} {v : Value} {xs : List α} (hv : OwnL enc y h q v xs) (hh : look q h' = look q h) : OwnL enc y h' q v xs := by
  rcases hv with hv | ⟨e1, e2, e3⟩
  · exact .inl hv
  · exact .inr ⟨e1, e2, by rw [hh]; exact e3⟩
theorem OwnL.listV {α : Type} {enc : α → List Value} {y : Nat} {h : List (Nat × Blk)} {q n : Nat} {v : Value} {xs : List α} (hv : OwnL enc y h q v xs) (hq : q < n) : ListV enc h n v xs := by
  rcases hv with hv | ⟨e1, e2, e3⟩
  · exact .inl hv
  · exact .inr ⟨q, _, _, true, e1, e3, hq⟩
/-- One more. -/
theorem own_app {α : Type} {enc : α → List Value} {t0 t1 : TypeId} {z y : Nat} (hk : appOk Try.prog t0 t1 z = true) (hz : z + 1 = y) (hz0 : 0 < z) (he : ∀ x, (enc x).length = z) (ho1 : ∀ x, (enc x).all Value.oneCell' = true) {h : List (Nat × Blk)} {q n bs : Nat} {d : List Nat} {v : Value} {xs : List α} {x : α} (hv : OwnL enc y h q v xs) (hq : q < n) (hl : xs.length < 100000) {m : Nat} (hm : m < n) (hm2 : look m h = some (.cells (enc x) true)) (hmq : m ≠ q) :
    ∃ q' h' d', builtinA Try.prog .append #[t0, t1] [v, .slice (some ⟨m, 0, some 0⟩) 1 1] ⟨n, h, bs, d⟩ = some (.slice (some ⟨q', 0, some y⟩) (xs ++ [x]).length (xs ++ [x]).length, ⟨n + 1, h', bs, d'⟩) ∧ n ≤ q' ∧ q' < n + 1 ∧ look q' h' = some (.cells ((xs ++ [x]).flatMap enc) true) ∧ (∀ j, j < n → j ≠ q → look j h' = look j h) ∧ (d' = d ∨ d' = soilW bs d q) := by
  have hall : ∀ l : List α, (l.flatMap enc).all Value.oneCell' = true := by
    intro l
    rw [List.all_eq_true]
    intro u hu
    obtain ⟨x, _, hx⟩ := List.mem_flatMap.1 hu
    exact List.all_eq_true.1 (ho1 x) u hx
  have hfl := flatMap_len he
  have hc : cellsAt (AW.get ⟨n, h, bs, d⟩ m) 0 (1 * z) = some (enc x) := by
    rw [get_mk, hm2, cellsAt_cells (by rw [he]; omega), List.drop_zero, Nat.one_mul, ← he x, List.take_length]
  rcases hv with ⟨rfl, rfl⟩ | ⟨rfl, hne, hqc⟩
  · refine ⟨n, (n, .cells (enc x) true) :: h, d, ?_, Nat.le_refl _, by omega, ?_, fun j h1 h2 => look_miss (by omega), .inl rfl⟩
    · rw [wp_append_nil (q := ⟨m, 0, some 0⟩) (new := enc x) hk hz (by omega) (by omega) hc (ho1 x)]
      rfl
    · rw [look_self]; simp
  · have hw : cellsAt (AW.get ⟨n, h, bs, d⟩ q) 0 (xs.length * z) = some (xs.flatMap enc) := by
      rw [get_mk, hqc, cellsAt_cells (by rw [hfl]; omega), List.drop_zero, ← hfl xs, List.take_length]
    refine ⟨n, (n, .cells ((xs ++ [x]).flatMap enc) true) :: kill q h, soilW bs d q, ?_, Nat.le_refl _, by omega, look_self, ?_, .inr rfl⟩
    · rw [wp_append_grown (a := ⟨n, h, bs, d⟩) (o := 0) (q := ⟨m, 0, some 0⟩) (was := xs.flatMap enc) (new := enc x) hk hz (by omega) (by omega) hw hc (ho1 x)]
      rw [drop_soil, List.length_append, List.flatMap_append]
      simp only [List.flatMap_cons, List.flatMap_nil, List.append_nil]
      rfl
    · intro j h1 h2
      rw [look_miss (by omega), look_wkill_ne h2]
theorem und2 : Try.prog.underlying 2 = some (.int .i64) := rfl
theorem und49 : Try.prog.underlying 49 = some (.pointer 60) := rfl
theorem und58 : Try.prog.underlying 58 = some (.slice 73) := rfl
theorem agg58 : aggB Try.prog 58 = some false := rfl
theorem agg73 : aggB Try.prog 73 = some true := rfl
theorem agg4 : aggB Try.prog 4 = some false := rfl
theorem size58 : typeSize Try.prog 58 = some 1 := rfl
theorem size73 : typeSize Try.prog 73 = some 3 := rfl
theorem fo60_0 : fldOff Try.prog 60 0 = some 0 := rfl
theorem fo60_1 : fldOff Try.prog 60 1 = some 1 := rfl
theorem fo60_2 : fldOff Try.prog 60 2 = some 2 := rfl
theorem fo60_3 : fldOff Try.prog 60 3 = some 3 := rfl
theorem fo60_4 : fldOff Try.prog 60 4 = some 4 := rfl
theorem fo60_5 : fldOff Try.prog 60 5 = some 5 := rfl
theorem fo60_6 : fldOff Try.prog 60 6 = some 6 := rfl
theorem fo73_0 : fldOff Try.prog 73 0 = some 0 := rfl
theorem fo73_1 : fldOff Try.prog 73 1 = some 1 := rfl
theorem fo73_2 : fldOff Try.prog 73 2 = some 2 := rfl
theorem app58 : appOk Try.prog 58 58 3 = true := by decide +kernel
theorem sl58 : slOk Try.prog 58 3 = true := by decide +kernel
def refC (s c : Int) (du : List UInt8) (pv : Value) (im : List UInt8) (f o : Int) : List Value := [.int .i64 s, .int .i64 c, .string (mkStr du), pv, .string (mkStr im), .int .i64 f, .int .i64 o]
/-- How the document writes an operation down. -/
def encO : DOp → List Value
  | .wr f b => [.bool false, .int .u32 ((f / 128 : Nat) : Int), .string (mkStr b)]
  | .tr t => [.bool true, .int .u32 ((t / 128 : Nat) : Int), .string (mkStr [])]
theorem encO_len (o : DOp) : (encO o).length = 3 := by cases o <;> rfl
theorem encO_one (o : DOp) : (encO o).all Value.oneCell' = true := by cases o <;> rfl
/-- Pages that are whole, and not too far out. -/
def DOp.Whole (o : DOp) : Prop := match o with
  | .wr f b => ∃ n, f = 128 * n ∧ b.length = 128 ∧ n < 100
  | .tr t => ∃ n, t = 128 * n ∧ n < 100
structure RefS (h : List (Nat × Blk)) (n b q : Nat) (D : Dv) : Prop where
  st : ∃ pv, look b h = some (.cells (refC D.s D.c D.du pv D.im D.f D.o) true) ∧ OwnL encO 4 h q pv D.ops
  bq : b ≠ q
  lt : b < n ∧ q < n
  fu : -1 ≤ D.f ∧ D.f ≤ 9223372036854775807
  no : 0 ≤ D.o
  im : D.im.length ≤ 1000000
  du : D.du.length ≤ 1000000
  op : ∀ o ∈ D.ops, o.Whole
theorem noughts49 (x : Int) (hx : x ≤ 1000000) (hx2 : -1000000 ≤ x) (a : AW) (K) : WCall Try.prog GV 49 [.int .i64 x] a K = K (.string (mkStr (List.replicate x.toNat 0))) a := by
  refine call_eq ?_ K
  rw [call_env Try.func49 rfl Try.ntmps49 rfl rfl (by simp)]
  have e : (max 0 x).toNat = x.toNat := by omega
  simp -dsimp (maxSteps := 4000000) (disch := first | omega | assumption | (simp only [FB, Nat.reduceAdd]; done) | (simp only [LB]; omega)) only [EB, ↓reduceIte, WB, Nat.reduceSub, Nat.reduceAdd, Int.reduceEq, Int.reduceNe, Int.reduceLT, Int.reduceLE, Int.reduceAdd, Int.reduceSub, Int.reduceMul, Int.reduceNeg, Int.reduceToNat, Nat.reduceEqDiff, Nat.reduceLT, Nat.reduceLeDiff, Nat.reduceMul, List.replicate, reduceCtorEq, op_len und9 rfl, makeSl_at elem37 zero5 rfl bytes5, zero_bytes2, op_ofBytes und37 und9 und5]
  rw [readBytes_at (l := List.replicate (max 0 x).toNat 0) (rw := true) (by simp only [get_mk, look_self]) (by simp)]
  simp -dsimp (maxSteps := 4000000) (disch := first | omega | assumption | (simp only [FB, Nat.reduceAdd]; done) | (simp only [LB]; omega)) only [EB, ↓reduceIte, WB, Nat.reduceSub, Nat.reduceAdd, Int.reduceEq, Int.reduceNe, Int.reduceLT, Int.reduceLE, Int.reduceAdd, Int.reduceSub, Int.reduceMul, Int.reduceNeg, Int.reduceToNat, Nat.reduceEqDiff, Nat.reduceLT, Nat.reduceLeDiff, Nat.reduceMul, List.replicate, reduceCtorEq, op_len und9 rfl, e, List.take_replicate, Nat.min_self]
  exact ⟨(by first | trivial | rfl | omega), (by first | trivial | rfl | omega)⟩
theorem does48 (o : DOp) (hw : o.Whole) (im : List UInt8) (him : im.length ≤ 1000000) (a : AW) (K) : WCall Try.prog GV 48 [.int .i64 128, .string (mkStr im), .agg (encO o).toArray] a K = K (.string (mkStr (o.act im))) a := by
  refine call_eq ?_ K
  rw [call_env Try.func48 rfl Try.ntmps48 rfl rfl (by simp)]
  cases o with
  | tr t =>
    obtain ⟨n, rfl, hn⟩ := hw
    have e0 : 128 * n / 128 = n := by omega
    have e : List.take (min ((n : Int) * 128) (im.length : Int)).toNat im = (DOp.tr (128 * n)).act im := by
      show List.take (min ((n : Int) * 128) (im.length : Int)).toNat im = List.take (128 * n) im
      by_cases h : 128 * n ≤ im.length
      · rw [show (min ((n : Int) * 128) (im.length : Int)).toNat = 128 * n by omega]
      · rw [List.take_of_length_le (by omega), List.take_of_length_le (by omega)]
    simp -dsimp (maxSteps := 4000000) (disch := first | omega | assumption | (simp only [FB, Nat.reduceAdd]; done) | (simp only [LB]; omega)) only [EB, ↓reduceIte, WB, Nat.reduceSub, Nat.reduceAdd, Int.reduceEq, Int.reduceNe, Int.reduceLT, Int.reduceLE, Int.reduceAdd, Int.reduceSub, Int.reduceMul, Int.reduceNeg, Int.reduceToNat, Nat.reduceEqDiff, Nat.reduceLT, Nat.reduceLeDiff, Nat.reduceMul, List.replicate, reduceCtorEq, op_len und9 rfl, encO, op_fa fo73_0, op_fa fo73_1, op_fa fo73_2, load_one agg4, load_one agg31, load_one agg9, op_conv_int und31 und3, conv_int und31 und3, wrap64, e0, slice_str_hi und9, e]
    exact ⟨(by first | trivial | rfl | omega), (by first | trivial | rfl | omega)⟩
  | wr f b =>
    obtain ⟨n, rfl, hb, hn⟩ := hw
    have e0 : 128 * n / 128 = n := by omega
    have hact : (DOp.wr (128 * n) b).act im = (grow (128 * n + 128) im).take (128 * n) ++ b ++ (grow (128 * n + 128) im).drop (128 * n + 128) := by rw [← hb]; rfl
    have hg := grow_len (128 * n + 128) im
    have e1 : ((n : Int) * 128).toNat = 128 * n := by omega
    have e2 : ((n : Int) * 128 + 128).toNat = 128 * n + 128 := by omega
    have hl1 : (List.take (128 * n) (grow (128 * n + 128) im)).length + b.length ≤ 140737488355328 := by rw [List.length_take]; omega
    have hl2 : (List.take (128 * n) (grow (128 * n + 128) im) ++ b).length + (List.drop (128 * n + 128) (grow (128 * n + 128) im)).length ≤ 140737488355328 := by rw [List.length_append, List.length_take, List.length_drop]; omega
    by_cases hc : (im.length : Int) < (n : Int) * 128 + 128
    · have e3 : ((n : Int) * 128 + 128 - (im.length : Int)).toNat = 128 * n + 128 - im.length := by omega
      have e4 : im ++ List.replicate (128 * n + 128 - im.length) 0 = grow (128 * n + 128) im := rfl
      simp -dsimp (maxSteps := 4000000) (disch := first | omega | assumption | (simp only [FB, Nat.reduceAdd]; done) | (simp only [LB]; omega)) only [EB, ↓reduceIte, WB, Nat.reduceSub, Nat.reduceAdd, Int.reduceEq, Int.reduceNe, Int.reduceLT, Int.reduceLE, Int.reduceAdd, Int.reduceSub, Int.reduceMul, Int.reduceNeg, Int.reduceToNat, Nat.reduceEqDiff, Nat.reduceLT, Nat.reduceLeDiff, Nat.reduceMul, List.replicate, reduceCtorEq, op_len und9 rfl, encO, op_fa fo73_0, op_fa fo73_1, op_fa fo73_2, load_one agg4, load_one agg31, load_one agg9, op_conv_int und31 und3, conv_int und31 und3, wrap64, e0, hc, noughts49, e3, str_add (show im.length + (List.replicate (128 * n + 128 - im.length) (0 : UInt8)).length ≤ 140737488355328 by rw [List.length_replicate]; omega), e4]
      refine code_draw [(0, 1), (0, 3), (0, 4), (0, 6), (0, 7), (0, 8), (0, 9), (0, 10), (1, 3), (1, 4), (1, 6), (1, 7), (1, 8), (1, 9), (1, 10), (2, 3), (2, 4), (2, 6), (2, 7), (2, 8), (2, 9), (2, 10), (3, 6), (3, 7), (3, 8), (3, 9), (3, 10), (4, 6), (4, 7), (4, 8), (4, 9), (4, 10), (5, 6), (5, 7), (5, 8), (5, 9), (5, 10), (6, 7), (6, 8), (6, 9), (7, 8)] (by decide +kernel) (by decide +kernel) ?_
      simp -dsimp (maxSteps := 4000000) (disch := first | omega | assumption | (simp only [FB, Nat.reduceAdd]; done) | (simp only [LB]; omega)) only [EB, ↓reduceIte, WB, Nat.reduceSub, Nat.reduceAdd, Int.reduceEq, Int.reduceNe, Int.reduceLT, Int.reduceLE, Int.reduceAdd, Int.reduceSub, Int.reduceMul, Int.reduceNeg, Int.reduceToNat, Nat.reduceEqDiff, Nat.reduceLT, Nat.reduceLeDiff, Nat.reduceMul, List.replicate, reduceCtorEq, RB, Nat.reduceEqDiff, op_len und9 rfl, op_fa fo73_2, load_one agg9, slice_str_hi und9, slice_str_lo und9, hg, wrap64, e1, e2, str_add hl1, str_add hl2]
      rw [hact, List.drop_of_length_le (by omega), List.append_nil]
    · have e4 : grow (128 * n + 128) im = im := by unfold grow; rw [show 128 * n + 128 - im.length = 0 by omega]; simp
      rw [e4] at hl1 hl2 hact
      simp -dsimp (maxSteps := 4000000) (disch := first | omega | assumption | (simp only [FB, Nat.reduceAdd]; done) | (simp only [LB]; omega)) only [EB, ↓reduceIte, WB, Nat.reduceSub, Nat.reduceAdd, Int.reduceEq, Int.reduceNe, Int.reduceLT, Int.reduceLE, Int.reduceAdd, Int.reduceSub, Int.reduceMul, Int.reduceNeg, Int.reduceToNat, Nat.reduceEqDiff, Nat.reduceLT, Nat.reduceLeDiff, Nat.reduceMul, List.replicate, reduceCtorEq, op_len und9 rfl, encO, op_fa fo73_0, op_fa fo73_1, op_fa fo73_2, load_one agg4, load_one agg31, load_one agg9, op_conv_int und31 und3, conv_int und31 und3, wrap64, e0, hc]
      refine code_draw [(0, 1), (0, 3), (0, 4), (0, 6), (0, 7), (0, 8), (0, 9), (0, 10), (1, 3), (1, 4), (1, 6), (1, 7), (1, 8), (1, 9), (1, 10), (2, 3), (2, 4), (2, 6), (2, 7), (2, 8), (2, 9), (2, 10), (3, 6), (3, 7), (3, 8), (3, 9), (3, 10), (4, 6), (4, 7), (4, 8), (4, 9), (4, 10), (5, 6), (5, 7), (5, 8), (5, 9), (5, 10), (6, 7), (6, 8), (6, 9), (7, 8)] (by decide +kernel) (by decide +kernel) ?_
      simp -dsimp (maxSteps := 4000000) (disch := first | omega | assumption | (simp only [FB, Nat.reduceAdd]; done) | (simp only [LB]; omega)) only [EB, ↓reduceIte, WB, Nat.reduceSub, Nat.reduceAdd, Int.reduceEq, Int.reduceNe, Int.reduceLT, Int.reduceLE, Int.reduceAdd, Int.reduceSub, Int.reduceMul, Int.reduceNeg, Int.reduceToNat, Nat.reduceEqDiff, Nat.reduceLT, Nat.reduceLeDiff, Nat.reduceMul, List.replicate, reduceCtorEq, RB, Nat.reduceEqDiff, op_len und9 rfl, op_fa fo73_2, load_one agg9, slice_str_hi und9, slice_str_lo und9, wrap64, e1, e2, str_add hl1, str_add hl2]
      first | (rw [hact]; done) | (rw [hact]; rfl)
section
variable {D : Dv} {k : Nat} {h : List (Nat × Blk)} {n bs b q : Nat} {d : List Nat} {K : Value → AW → Prop}
theorem spend47 (D : Dv) (hfu : -1 ≤ D.f ∧ D.f ≤ 9223372036854775807) (hno : 0 ≤ D.o ∧ D.o < 1000000) (pv : Value) (hb : look b h = some (.cells (refC D.s D.c D.du pv D.im D.f D.o) true)) (hbn : b < n) (K) :
    WCall Try.prog GV 47 [.pointer (some ⟨b, 0, none⟩)] ⟨n, h, bs, d⟩ K = (if D.f = 0 then K (.int .i64 8) ⟨n, h, bs, d⟩ else K (.int .i64 0) ⟨n, putAt b (.cells (refC D.s D.c D.du pv D.im D.dec (D.o + 1)) true) h, bs, soilW bs d b⟩) := by
  obtain ⟨D1, D2, D3, D4, D5, f, o⟩ := D
  simp only [Dv.dec] at *
  by_cases h0 : f = 0
  · rw [if_pos h0]
    refine call_eq ?_ K
    rw [call_env Try.func47 rfl Try.ntmps47 rfl rfl (by simp)]
    subst h0
    simp -dsimp (maxSteps := 4000000) (disch := first | omega | assumption | (simp only [FB, Nat.reduceAdd]; done) | (simp only [LB]; omega)) only [EB, ↓reduceIte, WB, Nat.reduceSub, Nat.reduceAdd, Int.reduceEq, Int.reduceNe, Int.reduceLT, Int.reduceLE, Int.reduceAdd, Int.reduceSub, Int.reduceMul, Int.reduceNeg, Int.reduceToNat, Nat.reduceEqDiff, Nat.reduceLT, Nat.reduceLeDiff, Nat.reduceMul, List.replicate, reduceCtorEq, op_len und9 rfl, hb, refC, op_fa fo60_0, op_fa fo60_1, op_fa fo60_2, op_fa fo60_3, op_fa fo60_4, op_fa fo60_5, op_fa fo60_6, load_one agg3, load_one agg9, load_one agg58, storeVar_eq size3, storeVar_eq size9, storeVar_eq size58, nilCheck_ptr]
    exact ⟨trivial, trivial⟩
  · rw [if_neg h0]
    refine call_eq ?_ K
    rw [call_env Try.func47 rfl Try.ntmps47 rfl rfl (by simp)]
    by_cases hp : 0 < f
    · simp -dsimp (maxSteps := 4000000) (disch := first | omega | assumption | (simp only [FB, Nat.reduceAdd]; done) | (simp only [LB]; omega)) only [EB, ↓reduceIte, WB, Nat.reduceSub, Nat.reduceAdd, Int.reduceEq, Int.reduceNe, Int.reduceLT, Int.reduceLE, Int.reduceAdd, Int.reduceSub, Int.reduceMul, Int.reduceNeg, Int.reduceToNat, Nat.reduceEqDiff, Nat.reduceLT, Nat.reduceLeDiff, Nat.reduceMul, List.replicate, reduceCtorEq, op_len und9 rfl, hb, refC, op_fa fo60_0, op_fa fo60_1, op_fa fo60_2, op_fa fo60_3, op_fa fo60_4, op_fa fo60_5, op_fa fo60_6, load_one agg3, load_one agg9, load_one agg58, storeVar_eq size3, storeVar_eq size9, storeVar_eq size58, h0, hp, wrap64, write_soil, if_true]
      rw [soil_one hbn, soil_same hbn, leave_soil, put_twice]
      exact ⟨rfl, rfl⟩
    · simp -dsimp (maxSteps := 4000000) (disch := first | omega | assumption | (simp only [FB, Nat.reduceAdd]; done) | (simp only [LB]; omega)) only [EB, ↓reduceIte, WB, Nat.reduceSub, Nat.reduceAdd, Int.reduceEq, Int.reduceNe, Int.reduceLT, Int.reduceLE, Int.reduceAdd, Int.reduceSub, Int.reduceMul, Int.reduceNeg, Int.reduceToNat, Nat.reduceEqDiff, Nat.reduceLT, Nat.reduceLeDiff, Nat.reduceMul, List.replicate, reduceCtorEq, op_len und9 rfl, hb, refC, op_fa fo60_0, op_fa fo60_1, op_fa fo60_2, op_fa fo60_3, op_fa fo60_4, op_fa fo60_5, op_fa fo60_6, load_one agg3, load_one agg9, load_one agg58, storeVar_eq size3, storeVar_eq size9, storeVar_eq size58, h0, hp, wrap64, write_soil, if_false]
      rw [soil_one hbn, leave_soil]
      exact ⟨rfl, rfl⟩
/-- As 'After', for the document's device. -/
inductive AfterR (h : List (Nat × Blk)) (n bs : Nat) (d : List Nat) (b q : Nat) (D D' : Dv) : List (Nat × Blk) → Nat → List Nat → Nat → Prop
  | same (e : D' = D) : AfterR h n bs d b q D D' h n d q
  | wrote {h' : List (Nat × Blk)} {n' : Nat} {d' : List Nat} {q' : Nat} (h1 : Soiled bs d d' b q) (h2 : q' = q ∨ n ≤ q') (h4 : n ≤ n') (h5 : RefS h' n' b q' D') (h6 : Out h h' n b q) : AfterR h n bs d b q D D' h' n' d' q'
theorem does46 (hk : D.Ok k) (hk2 : k ≤ 100) (o : DOp) (hw : o.Whole) (hd : RefS h n b q D)
    (hK : ∀ n' h' d' q', AfterR h n bs d b q D (D.doOp o).1 h' n' d' q' → K (.int .i64 (D.doOp o).2) ⟨n', h', bs, d'⟩) :
    WCall Try.prog GV 46 [.pointer (some ⟨b, 0, none⟩), .agg (encO o).toArray] ⟨n, h, bs, d⟩ K := by
  obtain ⟨c1, c2, c3, hE⟩ := list3 (encO_len o)
  have hone := encO_one o
  have d48 := fun im him a K => does48 o hw im him a K
  rw [hE] at hone
  simp only [hE] at d48
  rw [hE, call_env Try.func46 rfl Try.ntmps46 rfl rfl (by simp)]
  obtain ⟨⟨pv, hb, hp⟩, hbq, ⟨hbn, hqn⟩, hfu, hno0, him, hdu, hop⟩ := hd
  have ho := hk.o
  have hl := hk.l
  have hs := hk.s
  have hnb : look b ((n, Blk.cells [c1, c2, c3] true) :: h) = some (.cells (refC D.s D.c D.du pv D.im D.f D.o) true) := by rw [look_miss (by omega)]; exact hb
  by_cases h0 : D.f = 0
  · have hD : D.doOp o = (D, 8) := by simp [Dv.doOp, h0]
    rw [hD] at hK
    simp -dsimp (maxSteps := 4000000) (disch := first | omega | assumption | (simp only [FB, Nat.reduceAdd]; done) | (simp only [LB]; omega)) only [EB, ↓reduceIte, WB, Nat.reduceSub, Nat.reduceAdd, Int.reduceEq, Int.reduceNe, Int.reduceLT, Int.reduceLE, Int.reduceAdd, Int.reduceSub, Int.reduceMul, Int.reduceNeg, Int.reduceToNat, Nat.reduceEqDiff, Nat.reduceLT, Nat.reduceLeDiff, Nat.reduceMul, List.replicate, reduceCtorEq, op_len und9 rfl, spend47 D hfu ⟨hno0, by omega⟩ pv hnb (show b < n + 1 by omega), h0, if_true]
    exact hK n h d q (.same rfl)
  · have hD : D.doOp o = ({ D with im := o.act D.im, ops := D.ops ++ [o], f := D.dec, o := D.o + 1 }, 0) := by simp [Dv.doOp, h0]
    rw [hD] at hK
    simp -dsimp (maxSteps := 4000000) (disch := first | omega | assumption | (simp only [FB, Nat.reduceAdd]; done) | (simp only [LB]; omega)) only [EB, ↓reduceIte, WB, Nat.reduceSub, Nat.reduceAdd, Int.reduceEq, Int.reduceNe, Int.reduceLT, Int.reduceLE, Int.reduceAdd, Int.reduceSub, Int.reduceMul, Int.reduceNeg, Int.reduceToNat, Nat.reduceEqDiff, Nat.reduceLT, Nat.reduceLeDiff, Nat.reduceMul, List.replicate, reduceCtorEq, op_len und9 rfl, spend47 D hfu ⟨hno0, by omega⟩ pv hnb (show b < n + 1 by omega), h0, if_false]
    obtain ⟨h1, hh1⟩ : ∃ h1, h1 = (n, Blk.cells [c1, c2, c3] true) :: putAt b (Blk.cells (refC D.s D.c D.du pv D.im D.dec (D.o + 1)) true) h := ⟨_, rfl⟩
    rw [← hh1]
    have hb1 : look b h1 = some (Blk.cells (refC D.s D.c D.du pv D.im D.dec (D.o + 1)) true) := by rw [hh1, look_miss (by omega), look_wput_self, hb]; rfl
    have hn1 : look n h1 = some (Blk.cells [c1, c2, c3] true) := by rw [hh1, look_self]
    have hp1 : OwnL encO 4 h1 q pv D.ops := hp.keep (by rw [hh1, look_miss (by omega), look_wput_ne (Ne.symm hbq)])
    have ho1 : ∀ j, j < n → j ≠ b → look j h1 = look j h := fun j j1 j2 => by rw [hh1, look_miss (by omega), look_wput_ne j2]
    have hq0 := soil_one hbn
    simp only [refC] at hb1
    refine code_draw [(0, 1), (0, 2), (0, 3), (0, 4), (0, 5), (0, 6), (0, 7), (1, 5), (1, 6), (2, 5), (2, 6), (3, 5), (3, 6), (4, 5), (4, 6)] (by decide +kernel) (by decide +kernel) ?_
    simp -dsimp (maxSteps := 4000000) (disch := first | omega | assumption | (simp only [FB, Nat.reduceAdd]; done) | (simp only [LB]; omega)) only [EB, ↓reduceIte, WB, Nat.reduceSub, Nat.reduceAdd, Int.reduceEq, Int.reduceNe, Int.reduceLT, Int.reduceLE, Int.reduceAdd, Int.reduceSub, Int.reduceMul, Int.reduceNeg, Int.reduceToNat, Nat.reduceEqDiff, Nat.reduceLT, Nat.reduceLeDiff, Nat.reduceMul, List.replicate, reduceCtorEq, RB, Nat.reduceEqDiff, op_len und9 rfl, hb1, hn1, op_fa fo60_0, op_fa fo60_1, op_fa fo60_2, op_fa fo60_3, op_fa fo60_4, op_fa fo60_5, op_fa fo60_6, load_one agg3, load_one agg9, load_one agg58, storeVar_eq size3, storeVar_eq size9, storeVar_eq size58, load_agg agg73 size73, buildSl1 sl58]
    obtain ⟨q', h2, d2, e1, hq1, hq2, hq3, hq4, hd2⟩ := own_app (n := n + 3) (bs := n + 3) (d := []) (m := n + 2) (h := (n + 2, Blk.cells [c1, c2, c3] true) :: h1) app58 rfl (by omega) encO_len encO_one (x := o) (hp1.keep (by rw [look_miss (by omega)])) (by omega) (by omega) (by omega) (by rw [hE]; exact look_self) (by omega)
    rw [e1]
    have hd2' : ∀ U : Nat → Prop, U q → FromU U d2 := by
      intro U hU
      rcases hd2 with rfl | rfl
      · exact fromU_nil
      · rw [soil_one (by omega)]; exact fromU_one hU
    have hb2 : look b h2 = some (Blk.cells (refC D.s D.c D.du pv D.im D.dec (D.o + 1)) true) := by rw [hq4 b (by omega) hbq, look_miss (by omega)]; exact hb1
    have hn2 : look n h2 = some (Blk.cells [c1, c2, c3] true) := by rw [hq4 n (by omega) (by omega), look_miss (by omega)]; exact hn1
    have ho2 : ∀ j, j < n → j ≠ b → j ≠ q → look j h2 = look j h := fun j j1 j2 j3 => by rw [hq4 j (by omega) j3, look_miss (by omega), ho1 j j1 j2]
    obtain ⟨d3, hd3⟩ : ∃ d3, d3 = soilAll (soilW n [] b) n d2 := ⟨_, rfl⟩
    have hf3 : ∀ U : Nat → Prop, U b → U q → FromU U d3 := by
      intro U l1 l2
      rw [hd3]
      refine soilAll_fromU ?_ (hd2' U l2)
      rw [hq0]; exact fromU_one l1
    simp only [refC] at hb2
    simp -dsimp (maxSteps := 4000000) (disch := first | omega | assumption | (simp only [FB, Nat.reduceAdd]; done) | (simp only [LB]; omega)) only [EB, ↓reduceIte, WB, Nat.reduceSub, Nat.reduceAdd, Int.reduceEq, Int.reduceNe, Int.reduceLT, Int.reduceLE, Int.reduceAdd, Int.reduceSub, Int.reduceMul, Int.reduceNeg, Int.reduceToNat, Nat.reduceEqDiff, Nat.reduceLT, Nat.reduceLeDiff, Nat.reduceMul, List.replicate, reduceCtorEq, RB, Nat.reduceEqDiff, op_len und9 rfl, ← hd3, op_fa fo60_0, op_fa fo60_1, op_fa fo60_2, op_fa fo60_3, op_fa fo60_4, op_fa fo60_5, op_fa fo60_6, load_one agg3, load_one agg9, load_one agg58, storeVar_eq size3, storeVar_eq size9, storeVar_eq size58, hb2, List.length_append]
    obtain ⟨h3, hh3⟩ : ∃ h3, h3 = putAt b (Blk.cells [Value.int IntKind.i64 D.s, Value.int IntKind.i64 D.c, Value.string (mkStr D.du), Value.slice (some { block := q', off := 0, spot := some 4 }) (D.ops.length + 1) (D.ops.length + 1), Value.string (mkStr D.im), Value.int IntKind.i64 D.dec, Value.int IntKind.i64 (D.o + 1)] true) h2 := ⟨_, rfl⟩
    have hb3 : look b h3 = some (Blk.cells [Value.int IntKind.i64 D.s, Value.int IntKind.i64 D.c, Value.string (mkStr D.du), Value.slice (some { block := q', off := 0, spot := some 4 }) (D.ops.length + 1) (D.ops.length + 1), Value.string (mkStr D.im), Value.int IntKind.i64 D.dec, Value.int IntKind.i64 (D.o + 1)] true) := by rw [hh3, look_wput_self, hb2]; rfl
    have hn3 : look n h3 = some (Blk.cells [c1, c2, c3] true) := by rw [hh3, look_wput_ne (by omega)]; exact hn2
    have ho3 : ∀ j, j < n → j ≠ b → j ≠ q → look j h3 = look j h := fun j j1 j2 j3 => by rw [hh3, look_wput_ne j2, ho2 j j1 j2 j3]
    have hq3' : look q' h3 = some (Blk.cells ((D.ops ++ [o]).flatMap encO) true) := by rw [hh3, look_wput_ne (by omega)]; exact hq3
    obtain ⟨d4, hd4⟩ : ∃ d4, d4 = soilAll d3 n [b] := ⟨_, rfl⟩
    have hb0 : ∀ U : Nat → Prop, U b → FromU U [b] := fun U l1 => fromU_one l1
    have hf4 : ∀ U : Nat → Prop, U b → U q → FromU U d4 := fun lo l1 l2 => by rw [hd4]; exact soilAll_fromU (hf3 lo l1 l2) (hb0 lo l1)
    rw [← hh3, ← hd4]
    refine code_draw [(0, 1), (0, 2), (0, 3), (0, 4), (0, 5), (0, 6), (0, 7), (0, 8), (0, 9), (0, 10), (1, 5), (1, 6), (1, 7), (1, 8), (1, 9), (2, 5), (2, 6), (2, 7), (2, 8), (2, 9), (3, 5), (3, 6), (3, 7), (3, 8), (3, 9), (4, 5), (4, 6), (4, 7), (4, 8), (4, 9), (5, 9), (6, 9), (7, 9), (8, 9)] (by decide +kernel) (by decide +kernel) ?_
    simp -dsimp (maxSteps := 4000000) (disch := first | omega | assumption | (simp only [FB, Nat.reduceAdd]; done) | (simp only [LB]; omega)) only [EB, ↓reduceIte, WB, Nat.reduceSub, Nat.reduceAdd, Int.reduceEq, Int.reduceNe, Int.reduceLT, Int.reduceLE, Int.reduceAdd, Int.reduceSub, Int.reduceMul, Int.reduceNeg, Int.reduceToNat, Nat.reduceEqDiff, Nat.reduceLT, Nat.reduceLeDiff, Nat.reduceMul, List.replicate, reduceCtorEq, RB, Nat.reduceEqDiff, op_len und9 rfl, hb3, hn3, op_fa fo60_0, op_fa fo60_1, op_fa fo60_2, op_fa fo60_3, op_fa fo60_4, op_fa fo60_5, op_fa fo60_6, load_one agg3, load_one agg9, load_one agg58, storeVar_eq size3, storeVar_eq size9, storeVar_eq size58, load_agg agg73 size73, hs, d48]
    have hne : soilAll d4 n [b] ≠ [] := soilAll_ne hbn (by simp)
    rw [leave_dirty0 hne]
    simp -dsimp (maxSteps := 4000000) (disch := first | omega | assumption | (simp only [FB, Nat.reduceAdd]; done) | (simp only [LB]; omega)) only [EB, ↓reduceIte, WB, Nat.reduceSub, Nat.reduceAdd, Int.reduceEq, Int.reduceNe, Int.reduceLT, Int.reduceLE, Int.reduceAdd, Int.reduceSub, Int.reduceMul, Int.reduceNeg, Int.reduceToNat, Nat.reduceEqDiff, Nat.reduceLT, Nat.reduceLeDiff, Nat.reduceMul, List.replicate, reduceCtorEq, op_len und9 rfl, ]
    refine hK _ _ _ q' (.wrote (soiled_of (soilAll_mem hbn (by simp)) fun lo l1 l2 => soilAll_fromU (hf4 lo l1 l2) (hb0 lo l1)) (.inr (by omega)) (by omega) ?_ ?_)
    · refine ⟨⟨.slice (some { block := q', off := 0, spot := some 4 }) (D.ops.length + 1) (D.ops.length + 1), ?_, .inr ⟨by rw [List.length_append]; rfl, by simp, ?_⟩⟩, by omega, ⟨by omega, by omega⟩, ?_, ?_, ?_, hdu, ?_⟩
      · rw [look_wput_self, hb3]; simp only [hs]; rfl
      · rw [look_wput_ne (by omega)]; exact hq3'
      · simp only [Dv.dec]; split <;> omega
      · simp only; omega
      · have := act_len o D.im
        have : o.lim ≤ 1000000 := by
          cases o with
          | wr f bb => obtain ⟨m, rfl, h2, h3⟩ := hw; simp only [DOp.lim]; omega
          | tr t => obtain ⟨m, rfl, h3⟩ := hw; simp only [DOp.lim]; omega
        simp only; omega
      · intro o' ho'
        rcases List.mem_append.1 ho' with h | h
        · exact hop o' h
        · simp at h; rw [h]; exact hw
    · intro j j1 j2 j3
      rw [look_wput_ne j2]
      exact ho3 j j1 j2 j3
end
end Go.Proofs.YtgdmgolmeeigdaaAM
