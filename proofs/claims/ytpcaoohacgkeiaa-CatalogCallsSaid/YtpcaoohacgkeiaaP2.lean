/- Chapter 6: searching, copying, deleting. -/
import Derived.Test.YtpcaoohacgkeiaaP1
namespace Go.Proofs.YtpcaoohacgkeiaaAM
open Go Go.RowKit
set_option linter.unusedVariables false
set_option linter.unusedSimpArgs false
set_option maxRecDepth 10000
set_option maxHeartbeats 4000000

theorem encB_len (b : Bkt) : (encB b).length = 3 := rfl
theorem encB_one (b : Bkt) : (encB b).all Value.oneCell' = true := rfl
theorem encB_flat (b : Bkt) : (encB b).all flat = true := rfl
def nameIs (s : List UInt8) (b : Bkt) : Bool := decide (b.name = s)
def nameGe (s : List UInt8) (b : Bkt) : Bool := !Op.bytesLess b.name s
theorem is37 (b : Bkt) (s : List UInt8) (q : Nat) (a : AW) (hq : look q a.heap = some (.cells [.string (mkStr s)] true)) (hqn : q < a.next) (K) : WCall Try.prog GV 37 [.agg (encB b).toArray, .pointer (some ⟨q, 0, none⟩)] a K = K (.bool (nameIs s b)) a := by
  rw [call_env Try.func37 rfl Try.ntmps37 rfl rfl (by simp), encB]
  simp -dsimp (maxSteps := 4000000) (disch := first | omega | assumption | (simp only [FB, Nat.reduceAdd]; done) | (simp only [LB]; omega)) only [EB, ↓reduceIte, WB, Nat.reduceSub, Nat.reduceAdd, Int.reduceEq, Int.reduceNe, Int.reduceLT, Int.reduceLE, Int.reduceAdd, Int.reduceSub, Int.reduceMul, Int.reduceNeg, Int.reduceToNat, Nat.reduceEqDiff, Nat.reduceLT, Nat.reduceLeDiff, Nat.reduceMul, List.replicate, reduceCtorEq, TB, NB, show q ≠ a.next by omega, hq, nameIs]
theorem ge38 (b : Bkt) (s : List UInt8) (q : Nat) (a : AW) (hq : look q a.heap = some (.cells [.string (mkStr s)] true)) (hqn : q < a.next) (K) : WCall Try.prog GV 38 [.agg (encB b).toArray, .pointer (some ⟨q, 0, none⟩)] a K = K (.bool (nameGe s b)) a := by
  rw [call_env Try.func38 rfl Try.ntmps38 rfl rfl (by simp), encB]
  simp -dsimp (maxSteps := 4000000) (disch := first | omega | assumption | (simp only [FB, Nat.reduceAdd]; done) | (simp only [LB]; omega)) only [EB, ↓reduceIte, WB, Nat.reduceSub, Nat.reduceAdd, Int.reduceEq, Int.reduceNe, Int.reduceLT, Int.reduceLE, Int.reduceAdd, Int.reduceSub, Int.reduceMul, Int.reduceNeg, Int.reduceToNat, Nat.reduceEqDiff, Nat.reduceLT, Nat.reduceLeDiff, Nat.reduceMul, List.replicate, reduceCtorEq, TB, NB, show q ≠ a.next by omega, hq, nameGe]
theorem idx36 (v : Value) (l : List Bkt) (hl : l.length ≤ 5000000000000) (g : FuncId) (cap : Value) (p : Bkt → Bool) (a : AW) (m : Nat) (hm : m ≤ a.next) (hv : RV encB 3 a.heap m v l)
    (hp : ∀ (b : Bkt) (K : Value → AW → Prop), WCall Try.prog GV g [.agg (encB b).toArray, cap] ⟨a.next, a.heap, a.next, []⟩ K = K (.bool (p b)) ⟨a.next, a.heap, a.next, []⟩) (K : Value → AW → Prop) :
    WCall Try.prog GV 36 [v, .func (.func g) #[] #[cap]] a K = K (.int .i64 (if fidx p l < l.length then (fidx p l : Int) else -1)) a := by
  refine call_eq ?_ K
  rw [call_env Try.func36 rfl Try.ntmps36 rfl rfl (by simp)]
  obtain ⟨pp, c, rfl⟩ := hv.len
  simp -dsimp (maxSteps := 4000000) (disch := first | omega | assumption | (simp only [FB, Nat.reduceAdd]; done) | (simp only [LB]; omega)) only [EB, ↓reduceIte, WB, Nat.reduceSub, Nat.reduceAdd, Int.reduceEq, Int.reduceNe, Int.reduceLT, Int.reduceLE, Int.reduceAdd, Int.reduceSub, Int.reduceMul, Int.reduceNeg, Int.reduceToNat, Nat.reduceEqDiff, Nat.reduceLT, Nat.reduceLeDiff, Nat.reduceMul, List.replicate, reduceCtorEq, TB, NB, ]
  refine loop_inv (fun r t w => ∃ i, ∃ e : Nat → Value, r = l.length - i ∧ i ≤ l.length ∧ w = ⟨a.next, a.heap, a.next, []⟩ ∧ t = TT 19 e ∧ (∀ j (hj : j < l.length), j < i → p l[j] = false) ∧ e 0 = .slice pp l.length c ∧ e 1 = .func (.func g) #[] #[cap] ∧ e 7 = .int .i64 l.length ∧ e 8 = .int .i64 i) ⟨0, _, rfl, by omega, rfl, rfl, fun j _ h => absurd h (by omega), rfl, rfl, rfl, rfl⟩ ?_
  rintro r t w ⟨i, e, rfl, hi, rfl, rfl, hb, t0, t1, t7, t8⟩
  by_cases hlt : i < l.length
  · obtain ⟨b, o, sp, rw0, cc, rfl, hlk, hbn, hle, hat, -⟩ := hv.at encB_len hlt
    cases hpi : p l[i] with
    | true =>
      have hf : fidx p l = i := fidx_of hi hb fun _ => hpi
      simp -dsimp (maxSteps := 4000000) (disch := first | omega | assumption | (simp only [FB, Nat.reduceAdd]; done) | (simp only [LB]; omega)) only [EB, ↓reduceIte, WB, Nat.reduceSub, Nat.reduceAdd, Int.reduceEq, Int.reduceNe, Int.reduceLT, Int.reduceLE, Int.reduceAdd, Int.reduceSub, Int.reduceMul, Int.reduceNeg, Int.reduceToNat, Nat.reduceEqDiff, Nat.reduceLT, Nat.reduceLeDiff, Nat.reduceMul, List.replicate, reduceCtorEq, TB, NB, t0, t1, t7, t8, show (i : Int) < l.length by omega, hlk, hat, hp, hpi, hf, hlt]
      exact ⟨trivial, trivial⟩
    | false =>
      simp -dsimp (maxSteps := 4000000) (disch := first | omega | assumption | (simp only [FB, Nat.reduceAdd]; done) | (simp only [LB]; omega)) only [EB, ↓reduceIte, WB, Nat.reduceSub, Nat.reduceAdd, Int.reduceEq, Int.reduceNe, Int.reduceLT, Int.reduceLE, Int.reduceAdd, Int.reduceSub, Int.reduceMul, Int.reduceNeg, Int.reduceToNat, Nat.reduceEqDiff, Nat.reduceLT, Nat.reduceLeDiff, Nat.reduceMul, List.replicate, reduceCtorEq, TB, NB, t0, t1, t7, t8, show (i : Int) < l.length by omega, hlk, hat, hp, hpi, wrap64]
      refine ⟨trivial, l.length - (i + 1), by omega, i + 1, _, rfl, by omega, trivial, rfl, fun j hj hji => ?_, ?_⟩
      · rcases Nat.lt_or_ge j i with h | h
        · exact hb j hj h
        · obtain rfl : j = i := by omega
          exact hpi
      · simp only [ups_at, ↓reduceIte, Nat.reduceEqDiff]; exact ⟨t0, t1, t7, (by first | trivial | rfl | omega)⟩
  · obtain rfl : i = l.length := by omega
    have hf : fidx p l = l.length := fidx_of hi hb fun h => absurd h (by omega)
    simp -dsimp (maxSteps := 4000000) (disch := first | omega | assumption | (simp only [FB, Nat.reduceAdd]; done) | (simp only [LB]; omega)) only [EB, ↓reduceIte, WB, Nat.reduceSub, Nat.reduceAdd, Int.reduceEq, Int.reduceNe, Int.reduceLT, Int.reduceLE, Int.reduceAdd, Int.reduceSub, Int.reduceMul, Int.reduceNeg, Int.reduceToNat, Nat.reduceEqDiff, Nat.reduceLT, Nat.reduceLeDiff, Nat.reduceMul, List.replicate, reduceCtorEq, TB, NB, t0, t1, t7, t8, show ¬ (l.length : Int) < l.length by omega]
    rw [hf, if_neg (by omega)]
    exact ⟨rfl, trivial⟩
/-- Where a name is, or belongs. -/
def findB (l : List Bkt) (s : List UInt8) : Nat × Bool := if fidx (nameIs s) l < l.length then (fidx (nameIs s) l, true) else (fidx (nameGe s) l, false)
theorem find16 (v : Value) (l : List Bkt) (hl : l.length ≤ 5000000000000) (s : List UInt8) (a : AW) (m : Nat) (hm : m ≤ a.next) (hv : RV encB 3 a.heap m v l) (K : Value → AW → Prop) :
    WCall Try.prog GV 16 [v, .string (mkStr s)] a K = K (.tuple #[.int .i64 (findB l s).1, .bool (findB l s).2]) a := by
  refine call_eq ?_ K
  rw [call_env Try.func16 rfl Try.ntmps16 rfl rfl (by simp)]
  obtain ⟨pp, c, rfl⟩ := hv.len
  have hv1 : RV encB 3 ((a.next, Blk.cells [.string (mkStr s)] true) :: a.heap) m (.slice pp l.length c) l := hv.keep (Nat.le_refl _) fun j hj => look_miss (by omega)
  have i1 := fun K => idx36 (.slice pp l.length c) l hl 37 (.pointer (some ⟨a.next, 0, none⟩)) (nameIs s) ⟨a.next + 1, (a.next, .cells [.string (mkStr s)] true) :: a.heap, a.next, []⟩ m (by simp only; omega) hv1 (fun b K => is37 b s a.next _ look_self (Nat.lt_succ_self _) K) K
  have i2 := fun K => idx36 (.slice pp l.length c) l hl 38 (.pointer (some ⟨a.next, 0, none⟩)) (nameGe s) ⟨a.next + 1, (a.next, .cells [.string (mkStr s)] true) :: a.heap, a.next, []⟩ m (by simp only; omega) hv1 (fun b K => ge38 b s a.next _ look_self (Nat.lt_succ_self _) K) K
  by_cases h1 : fidx (nameIs s) l < l.length
  · simp only [h1, if_true] at i1
    simp -dsimp (maxSteps := 4000000) (disch := first | omega | assumption | (simp only [FB, Nat.reduceAdd]; done) | (simp only [LB]; omega)) only [EB, ↓reduceIte, WB, Nat.reduceSub, Nat.reduceAdd, Int.reduceEq, Int.reduceNe, Int.reduceLT, Int.reduceLE, Int.reduceAdd, Int.reduceSub, Int.reduceMul, Int.reduceNeg, Int.reduceToNat, Nat.reduceEqDiff, Nat.reduceLT, Nat.reduceLeDiff, Nat.reduceMul, List.replicate, reduceCtorEq, TB, NB, i1, show (0 : Int) ≤ fidx (nameIs s) l by omega]
    rw [findB, if_pos h1]; exact ⟨rfl, trivial⟩
  · simp only [h1, if_false] at i1
    have hle := fidx_le (p := nameGe s) l
    by_cases h2 : fidx (nameGe s) l < l.length
    · simp only [h2, if_true] at i2
      simp -dsimp (maxSteps := 4000000) (disch := first | omega | assumption | (simp only [FB, Nat.reduceAdd]; done) | (simp only [LB]; omega)) only [EB, ↓reduceIte, WB, Nat.reduceSub, Nat.reduceAdd, Int.reduceEq, Int.reduceNe, Int.reduceLT, Int.reduceLE, Int.reduceAdd, Int.reduceSub, Int.reduceMul, Int.reduceNeg, Int.reduceToNat, Nat.reduceEqDiff, Nat.reduceLT, Nat.reduceLeDiff, Nat.reduceMul, List.replicate, reduceCtorEq, TB, NB, i1, i2, show ¬ (0 : Int) ≤ -1 by omega, show (0 : Int) ≤ fidx (nameGe s) l by omega]
      rw [findB, if_neg h1]; exact ⟨rfl, trivial⟩
    · simp only [h2, if_false] at i2
      simp -dsimp (maxSteps := 4000000) (disch := first | omega | assumption | (simp only [FB, Nat.reduceAdd]; done) | (simp only [LB]; omega)) only [EB, ↓reduceIte, WB, Nat.reduceSub, Nat.reduceAdd, Int.reduceEq, Int.reduceNe, Int.reduceLT, Int.reduceLE, Int.reduceAdd, Int.reduceSub, Int.reduceMul, Int.reduceNeg, Int.reduceToNat, Nat.reduceEqDiff, Nat.reduceLT, Nat.reduceLeDiff, Nat.reduceMul, List.replicate, reduceCtorEq, TB, NB, i1, i2, show ¬ (0 : Int) ≤ -1 by omega]
      rw [findB, if_neg h1, show fidx (nameGe s) l = l.length by omega]; exact ⟨rfl, trivial⟩
theorem eql_none {t : TypeId} {x y : Operand} (h : t = 24) : binA Try.prog .eql t x y (.slice none 0 0) (.slice none 0 0) = some (.bool true) := by
  subst h
  rfl
/-- A row that is a list, no cell more. -/
def Whole (h : List (Nat × Blk)) (n q : Nat) (v : Value) (l : List Bkt) : Prop :=
  (v = .slice none 0 0 ∧ l = []) ∨ ∃ sp, (sp = some 0 ∨ sp = some 4) ∧ v = .slice (some ⟨q, 0, sp⟩) l.length l.length ∧ look q h = some (.cells (l.flatMap encB) true) ∧ q < n
theorem Whole.own {h : List (Nat × Blk)} {n q : Nat} {v : Value} {l : List Bkt} (w : Whole h n q v l) : OwnS encB 3 h n q v l := by
  rcases w with ⟨rfl, rfl⟩ | ⟨sp, hsp, rfl, hb, hq⟩
  · exact .inl ⟨rfl, rfl⟩
  · have hl := flatMap_len encB_len l
    exact .inr ⟨sp, l.length, l.flatMap encB, rfl, hb, by rw [← hl, List.take_length], Nat.le_refl _, by omega, hsp, hq, fun _ => allFlat encB_flat l⟩
theorem Whole.keep {h h' : List (Nat × Blk)} {n n' q : Nat} {v : Value} {l : List Bkt} (w : Whole h n q v l) (hn : n ≤ n') (hh : q < n → look q h' = look q h) : Whole h' n' q v l := by
  rcases w with w | ⟨sp, hsp, rfl, hb, hq⟩
  · exact .inl w
  · exact .inr ⟨sp, hsp, rfl, (hh hq).trans hb, Nat.lt_of_lt_of_le hq hn⟩
theorem Whole.lt {h : List (Nat × Blk)} {n q : Nat} {v : Value} {l : List Bkt} (w : Whole h n q v l) (hv : v ≠ .slice none 0 0) : q < n := by
  rcases w with ⟨rfl, _⟩ | ⟨sp, hsp, rfl, hb, hq⟩
  · exact absurd rfl hv
  · exact hq
theorem appB24 : appOkB 32 Try.prog 24 24 3 = true := by decide +kernel
theorem clone39w (v : Value) (l : List Bkt) (hl : l.length ≤ 5000000000000) (a : AW) (m : Nat) (hm : m ≤ a.next) (hv : RV encB 3 a.heap m v l) (K : Value → AW → Prop)
    (hK : ∀ v' n' h', a.next ≤ n' → n' ≤ a.next + 1 → Whole h' n' a.next v' l → (∀ j, j < a.next → look j h' = look j a.heap) → K v' ⟨n', h', a.base, a.dirty⟩) :
    WCall Try.prog GV 39 [v] a K := by
  rw [call_env Try.func39 rfl Try.ntmps39 rfl rfl (by simp)]
  rcases hv with ⟨rfl, rfl⟩ | ⟨b, o, sp, cap, rw0, c, rfl, hb, hbm, hc, ht, hsp, hcap⟩
  · simp -dsimp (maxSteps := 4000000) (disch := first | omega | assumption | (simp only [FB, Nat.reduceAdd]; done) | (simp only [LB]; omega)) only [EB, ↓reduceIte, WB, Nat.reduceSub, Nat.reduceAdd, Int.reduceEq, Int.reduceNe, Int.reduceLT, Int.reduceLE, Int.reduceAdd, Int.reduceSub, Int.reduceMul, Int.reduceNeg, Int.reduceToNat, Nat.reduceEqDiff, Nat.reduceLT, Nat.reduceLeDiff, Nat.reduceMul, List.replicate, reduceCtorEq, TB, NB, eql_none]
    rw [leave_flat rfl]
    exact hK _ _ _ (Nat.le_refl _) (by omega) (.inl ⟨rfl, rfl⟩) fun _ _ => rfl
  · have hv1 : RV encB 3 ((a.next, Blk.cells [] true) :: a.heap) m (.slice (some ⟨b, o, sp⟩) l.length cap) l := .inr ⟨b, o, sp, cap, rw0, c, rfl, by rw [look_miss (by omega)]; exact hb, hbm, hc, ht, hsp, hcap⟩
    simp -dsimp (maxSteps := 4000000) (disch := first | omega | assumption | (simp only [FB, Nat.reduceAdd]; done) | (simp only [LB]; omega)) only [EB, ↓reduceIte, WB, Nat.reduceSub, Nat.reduceAdd, Int.reduceEq, Int.reduceNe, Int.reduceLT, Int.reduceLE, Int.reduceAdd, Int.reduceSub, Int.reduceMul, Int.reduceNeg, Int.reduceToNat, Nat.reduceEqDiff, Nat.reduceLT, Nat.reduceLeDiff, Nat.reduceMul, List.replicate, reduceCtorEq, TB, NB, eql_some und24]
    obtain ⟨hlen, hcells⟩ := RV.cells (n' := a.next + 1) (bs := a.next) (d := []) hv1
    cases l with
    | nil =>
      have hap := append_fit0 (E := Try.prog) (t0 := 24) (t1 := 24) app24 (x := .slice (some ⟨b, o, sp⟩) 0 cap) (a := ⟨a.next + 1, (a.next, Blk.cells [] true) :: a.heap, a.next, []⟩) rfl hcells (p := ⟨a.next, 0, some 0⟩) (len := 0) (cap := 0) (Nat.le_refl _) (c := []) look_self (by simp)
      rw [write_soil] at hap
      simp -dsimp (maxSteps := 4000000) (disch := first | omega | assumption | (simp only [FB, Nat.reduceAdd]; done) | (simp only [LB]; omega)) only [EB, ↓reduceIte, WB, Nat.reduceSub, Nat.reduceAdd, Int.reduceEq, Int.reduceNe, Int.reduceLT, Int.reduceLE, Int.reduceAdd, Int.reduceSub, Int.reduceMul, Int.reduceNeg, Int.reduceToNat, Nat.reduceEqDiff, Nat.reduceLT, Nat.reduceLeDiff, Nat.reduceMul, List.replicate, reduceCtorEq, TB, NB, hap]
      rw [show soilW a.next [] a.next = [] from by unfold soilW; rw [if_neg (by omega)], leave_fresh (Nat.le_refl _) look_self rfl]
      exact hK _ (a.next + 1) _ (by omega) (Nat.le_refl _) (.inr ⟨some 0, .inl rfl, rfl, look_self, Nat.lt_succ_self _⟩) fun j hj => look_miss (by omega)
    | cons x xs =>
      have hs0 : sliceCells 3 (.slice (some ⟨a.next, 0, some 0⟩) 0 0) ⟨a.next + 1, (a.next, Blk.cells [] true) :: a.heap, a.next, []⟩ = some [] :=
        sliceCells_at (a := ⟨a.next + 1, (a.next, Blk.cells [] true) :: a.heap, a.next, []⟩) (p := ⟨a.next, 0, some 0⟩) (n := 0) (c := []) (rw := true) look_self (by simp)
      have hap := append_coreB (E := Try.prog) (B := 32) (t0 := 24) (t1 := 24) appB24 (a := ⟨a.next + 1, (a.next, Blk.cells [] true) :: a.heap, a.next, []⟩) (base := some ⟨a.next, 0, some 0⟩) (len := 0) (cap := 0) hlen hcells hs0 (by simp) (by omega) (by omega) (allOne encB_one _)
      simp only [grown, if_true, growA, Nat.zero_add, List.nil_append] at hap
      rw [hap]
      simp -dsimp (maxSteps := 4000000) (disch := first | omega | assumption | (simp only [FB, Nat.reduceAdd]; done) | (simp only [LB]; omega)) only [EB, ↓reduceIte, WB, Nat.reduceSub, Nat.reduceAdd, Int.reduceEq, Int.reduceNe, Int.reduceLT, Int.reduceLE, Int.reduceAdd, Int.reduceSub, Int.reduceMul, Int.reduceNeg, Int.reduceToNat, Nat.reduceEqDiff, Nat.reduceLT, Nat.reduceLeDiff, Nat.reduceMul, List.replicate, reduceCtorEq, TB, NB, ]
      rw [leave_fresh (by simp only; omega) look_self (allFlat encB_flat _)]
      exact hK _ (a.next + 1) _ (by omega) (Nat.le_refl _) (.inr ⟨some 4, .inr rfl, by simp [oneOf], by simpa [AW.new] using look_self, Nat.lt_succ_self _⟩) fun j hj => look_miss (by omega)
theorem clone39 (v : Value) (l : List Bkt) (hl : l.length ≤ 5000000000000) (a : AW) (m : Nat) (hm : m ≤ a.next) (hv : RV encB 3 a.heap m v l) (K : Value → AW → Prop)
    (hK : ∀ v' n' h', a.next ≤ n' → n' ≤ a.next + 1 → OwnS encB 3 h' n' a.next v' l → (∀ j, j < a.next → look j h' = look j a.heap) → K v' ⟨n', h', a.base, a.dirty⟩) :
    WCall Try.prog GV 39 [v] a K :=
  clone39w v l hl a m hm hv K fun v' n' h' x1 x2 x3 x4 => hK v' n' h' x1 x2 x3.own x4
end Go.Proofs.YtpcaoohacgkeiaaAM
