/- Chapter 6: Set, Own, Pick. -/
import Derived.Test.YtpcaoohacgkeiaaQ1
namespace Go.Proofs.YtpcaoohacgkeiaaAM
open Go Go.RowKit
set_option linter.unusedVariables false
set_option linter.unusedSimpArgs false
set_option maxRecDepth 10000
set_option maxHeartbeats 4000000

def setB (l : List Bkt) (b : Bkt) : List Bkt := if (findB l b.name).2 = true then l.set (findB l b.name).1 b else insB l (findB l b.name).1 b
theorem set_flat (l : List Bkt) (i : Nat) (hi : i < l.length) (b : Bkt) : (l.flatMap encB).take (i * 3) ++ (encB b ++ (l.flatMap encB).drop (i * 3 + (encB b).length)) = (l.set i b).flatMap encB := by
  have e2 : ((l.take i).flatMap encB).length = i * 3 := by rw [flatMap_len encB_len, List.length_take, Nat.min_eq_left (by omega)]
  have e1 : (l.flatMap encB).take (i * 3) = (l.take i).flatMap encB := by
    conv => lhs; rw [← List.take_append_drop i l, List.flatMap_append, ← e2, List.take_left]
  have e4 : ((l.take (i + 1)).flatMap encB).length = i * 3 + (encB b).length := by rw [flatMap_len encB_len, List.length_take, Nat.min_eq_left (by omega), encB_len]; omega
  have e3 : (l.flatMap encB).drop (i * 3 + (encB b).length) = (l.drop (i + 1)).flatMap encB := by
    conv => lhs; rw [← List.take_append_drop (i + 1) l, List.flatMap_append, ← e4, List.drop_left]
  rw [e1, e3, List.set_eq_take_append_cons_drop, if_pos hi, List.flatMap_append, List.flatMap_cons]
theorem set17 (v : Value) (l : List Bkt) (hl : l.length ≤ 900000) (b : Bkt) (a : AW) (m : Nat) (hm : m ≤ a.next) (hv : RV encB 3 a.heap m v l) (K : Value → AW → Prop)
    (hK : ∀ v' n' h', a.next ≤ n' → n' ≤ a.next + 1 → OwnS encB 3 h' n' a.next v' (setB l b) → (∀ j, j < a.next → look j h' = look j a.heap) → K v' ⟨n', h', a.base, a.dirty⟩) :
    WCall Try.prog GV 17 [v, .agg (encB b).toArray] a K := by
  rw [call_env Try.func17 rfl Try.ntmps17 rfl rfl (by simp), encB]
  have hb0 : look a.next ((a.next, Blk.cells [.string (mkStr b.name), .int .u32 b.root, .int .i64 b.keys] true) :: a.heap) = some (.cells (encB b) true) := look_self
  have hv1 : RV encB 3 ((a.next, Blk.cells [.string (mkStr b.name), .int .u32 b.root, .int .i64 b.keys] true) :: a.heap) m v l := hv.keep (Nat.le_refl _) fun j hj => look_miss (by omega)
  have hfi := fun K => find16 v l (by omega) b.name ⟨a.next + 1, (a.next, Blk.cells [.string (mkStr b.name), .int .u32 b.root, .int .i64 b.keys] true) :: a.heap, a.next, []⟩ m (by simp only; omega) hv1 K
  simp -dsimp (maxSteps := 4000000) (disch := first | omega | assumption | (simp only [FB, Nat.reduceAdd]; done) | (simp only [LB]; omega)) only [EB, ↓reduceIte, WB, Nat.reduceSub, Nat.reduceAdd, Int.reduceEq, Int.reduceNe, Int.reduceLT, Int.reduceLE, Int.reduceAdd, Int.reduceSub, Int.reduceMul, Int.reduceNeg, Int.reduceToNat, Nat.reduceEqDiff, Nat.reduceLT, Nat.reduceLeDiff, Nat.reduceMul, List.replicate, reduceCtorEq, TB, NB, hfi]
  refine clone39w v l (by omega) ⟨a.next + 1, (a.next, Blk.cells [.string (mkStr b.name), .int .u32 b.root, .int .i64 b.keys] true) :: a.heap, a.next, []⟩ m (by simp only; omega) hv1 _ fun v1 n1 h1 x1 x2 x3 x4 => ?_
  simp only at x1 x2 x3 x4
  have hbq : look a.next h1 = some (.cells [.string (mkStr b.name), .int .u32 b.root, .int .i64 b.keys] true) := by rw [x4 a.next (by omega)]; exact look_self
  by_cases hf : (findB l b.name).2 = true
  · have hi : (findB l b.name).1 < l.length := by
      unfold findB at hf ⊢
      split at hf
      · rename_i h; rw [if_pos h]; exact h
      · cases hf
    rcases x3 with ⟨rfl, rfl⟩ | ⟨sp, hsp, rfl, hb, hqn⟩
    · simp at hi
    · simp -dsimp (maxSteps := 4000000) (disch := first | omega | assumption | (simp only [FB, Nat.reduceAdd]; done) | (simp only [LB]; omega)) only [EB, ↓reduceIte, WB, Nat.reduceSub, Nat.reduceAdd, Int.reduceEq, Int.reduceNe, Int.reduceLT, Int.reduceLE, Int.reduceAdd, Int.reduceSub, Int.reduceMul, Int.reduceNeg, Int.reduceToNat, Nat.reduceEqDiff, Nat.reduceLT, Nat.reduceLeDiff, Nat.reduceMul, List.replicate, reduceCtorEq, TB, NB, hf, hbq, show (0 : Int) ≤ ((findB l b.name).1 : Nat) by omega, show (((findB l b.name).1 : Nat) : Int) < l.length by omega, hb]
      have hfl := flatMap_len encB_len l
      have hst := storeC_ok (a := ⟨n1, h1, a.next, []⟩) (p := ⟨a.next + 1, (findB l b.name).1 * 3, none⟩) (l := encB b) (c := l.flatMap encB) (by simp only [encB_len]; omega) (encB_one b)
      have hset := set_flat l (findB l b.name).1 hi b
      rw [hset, write_soil, show soilW a.next [] (a.next + 1) = [] from by unfold soilW; rw [if_neg (by omega)]] at hst
      have hst' : storeC (some (Blk.cells (l.flatMap encB) true)) ⟨a.next + 1, (findB l b.name).1 * 3, none⟩ [.string (mkStr b.name), .int .u32 b.root, .int .i64 b.keys] ⟨n1, h1, a.next, []⟩ = _ := hst
      simp -dsimp (maxSteps := 4000000) (disch := first | omega | assumption | (simp only [FB, Nat.reduceAdd]; done) | (simp only [LB]; omega)) only [EB, ↓reduceIte, WB, Nat.reduceSub, Nat.reduceAdd, Int.reduceEq, Int.reduceNe, Int.reduceLT, Int.reduceLE, Int.reduceAdd, Int.reduceSub, Int.reduceMul, Int.reduceNeg, Int.reduceToNat, Nat.reduceEqDiff, Nat.reduceLT, Nat.reduceLeDiff, Nat.reduceMul, List.replicate, reduceCtorEq, TB, NB, hst']
      have ho : OwnS encB 3 (putAt (a.next + 1) (Blk.cells ((l.set (findB l b.name).1 b).flatMap encB) true) h1) n1 (a.next + 1) (.slice (some ⟨a.next + 1, 0, sp⟩) l.length l.length) (setB l b) := by
        unfold setB
        rw [if_pos hf]
        refine Whole.own (.inr ⟨sp, hsp, by simp, ?_, hqn⟩)
        rw [look_wput_self, hb]; rfl
      exact leave_own encB_flat ho (by omega) fun v' n' h' z1 z2 z3 z4 _ => hK v' n' h' z1 z2 z3 z4
  · have hf' : (findB l b.name).2 = false := by simpa using hf
    have hi : (findB l b.name).1 ≤ l.length := by
      unfold findB
      split
      · omega
      · exact fidx_le _
    simp -dsimp (maxSteps := 4000000) (disch := first | omega | assumption | (simp only [FB, Nat.reduceAdd]; done) | (simp only [LB]; omega)) only [EB, ↓reduceIte, WB, Nat.reduceSub, Nat.reduceAdd, Int.reduceEq, Int.reduceNe, Int.reduceLT, Int.reduceLE, Int.reduceAdd, Int.reduceSub, Int.reduceMul, Int.reduceNeg, Int.reduceToNat, Nat.reduceEqDiff, Nat.reduceLT, Nat.reduceLeDiff, Nat.reduceMul, List.replicate, reduceCtorEq, TB, NB, hf', hbq]
    refine ins40 (x3.keep (h' := (n1, Blk.cells [Value.string (mkStr b.name), Value.int IntKind.u32 b.root, Value.int IntKind.i64 b.keys] true) :: h1) (n' := n1 + 1) (by omega) fun hq => look_miss (by omega)) (by omega) (by omega) look_self (fun hv => by have := x3.lt hv; omega) hl _ hi _ fun Q h2 y1 y2 y3 y4 => ?_
    simp -dsimp (maxSteps := 4000000) (disch := first | omega | assumption | (simp only [FB, Nat.reduceAdd]; done) | (simp only [LB]; omega)) only [EB, ↓reduceIte, WB, Nat.reduceSub, Nat.reduceAdd, Int.reduceEq, Int.reduceNe, Int.reduceLT, Int.reduceLE, Int.reduceAdd, Int.reduceSub, Int.reduceMul, Int.reduceNeg, Int.reduceToNat, Nat.reduceEqDiff, Nat.reduceLT, Nat.reduceLeDiff, Nat.reduceMul, List.replicate, reduceCtorEq, TB, NB, ]
    have ho : OwnS encB 3 h2 (Q + 1) Q (.slice (some ⟨Q, 0, some 4⟩) (l.length + 1) (l.length + 1)) (setB l b) := by
      unfold setB
      rw [if_neg hf]
      exact y3.own
    exact leave_own encB_flat ho (by omega) fun v' n' h' z1 z2 z3 z4 _ => hK v' n' h' z1 z2 z3 z4
theorem own15 (v : Value) (l : List Bkt) (hl : l.length ≤ 1000000) (a : AW) (m : Nat) (hm : m ≤ a.next) (hv : RV encB 3 a.heap m v l) (K : Value → AW → Prop)
    (hK : ∀ v' n' h', a.next ≤ n' → n' ≤ a.next + 1 → OwnS encB 3 h' n' a.next v' l → (∀ j, j < a.next → look j h' = look j a.heap) → K v' ⟨n', h', a.base, a.dirty⟩) :
    WCall Try.prog GV 15 [v] a K := by
  rw [call_env Try.func15 rfl Try.ntmps15 rfl rfl (by simp)]
  have hv1 : RV encB 3 ((a.next, Blk.cells [] true) :: a.heap) m v l := hv.keep (Nat.le_refl _) fun j hj => look_miss (by omega)
  simp -dsimp (maxSteps := 4000000) (disch := first | omega | assumption | (simp only [FB, Nat.reduceAdd]; done) | (simp only [LB]; omega)) only [EB, ↓reduceIte, WB, Nat.reduceSub, Nat.reduceAdd, Int.reduceEq, Int.reduceNe, Int.reduceLT, Int.reduceLE, Int.reduceAdd, Int.reduceSub, Int.reduceMul, Int.reduceNeg, Int.reduceToNat, Nat.reduceEqDiff, Nat.reduceLT, Nat.reduceLeDiff, Nat.reduceMul, List.replicate, reduceCtorEq, TB, NB, ]
  obtain ⟨v2, q2, n2, h2, e2, o2, f1, f2, f3, f4, f5⟩ := append_mine (E := Try.prog) (t0 := 24) (t1 := 24) (bs := a.next) (d := []) app24 encB_len encB_one (OwnS.made (n := a.next + 1) (h := (a.next, Blk.cells [] true) :: a.heap) look_self (Nat.lt_succ_self _)) (Nat.le_refl _) (by omega) hv1 (by simpa using hl)
  rw [e2]
  simp -dsimp (maxSteps := 4000000) (disch := first | omega | assumption | (simp only [FB, Nat.reduceAdd]; done) | (simp only [LB]; omega)) only [EB, ↓reduceIte, WB, Nat.reduceSub, Nat.reduceAdd, Int.reduceEq, Int.reduceNe, Int.reduceLT, Int.reduceLE, Int.reduceAdd, Int.reduceSub, Int.reduceMul, Int.reduceNeg, Int.reduceToNat, Nat.reduceEqDiff, Nat.reduceLT, Nat.reduceLeDiff, Nat.reduceMul, List.replicate, reduceCtorEq, TB, NB, ]
  exact leave_own encB_flat o2 f3 fun v' n' h' x1 x2 x3 x4 _ => hK v' n' h' x1 x2 x3 fun j hj => x4 j hj
def pickN (x m : Int) : Int := if m < 1 then 0 else if x.tmod m < 0 then x.tmod m + m else x.tmod m
theorem pick28 (x m : Int) (hx : -9223372036854775808 ≤ x ∧ x ≤ 9223372036854775807) (hm : m ≤ 1000000) (a : AW) (K) : WCall Try.prog GV 28 [.int .i64 x, .int .i64 m] a K = K (.int .i64 (pickN x m)) a := by
  rw [call_body' Try.func28 rfl Try.ntmps28 rfl rfl]
  unfold pickN
  by_cases h1 : m < 1
  · simp -dsimp (maxSteps := 4000000) (disch := first | omega | assumption | (simp only [FB, Nat.reduceAdd]; done) | (simp only [LB]; omega)) only [WB, Nat.reduceSub, Nat.reduceAdd, Int.reduceEq, Int.reduceNe, Int.reduceLT, Int.reduceLE, Int.reduceAdd, Int.reduceSub, Int.reduceMul, Int.reduceNeg, Int.reduceToNat, Nat.reduceEqDiff, Nat.reduceLT, Nat.reduceLeDiff, Nat.reduceMul, List.replicate, reduceCtorEq, TB, NB, h1]
    simp [h1]
  · have hlo := Int.lt_tmod_of_pos x (show 0 < m by omega)
    have hhi := Int.tmod_lt_of_pos x (show 0 < m by omega)
    by_cases h2 : x.tmod m < 0
    · simp -dsimp (maxSteps := 4000000) (disch := first | omega | assumption | (simp only [FB, Nat.reduceAdd]; done) | (simp only [LB]; omega)) only [WB, Nat.reduceSub, Nat.reduceAdd, Int.reduceEq, Int.reduceNe, Int.reduceLT, Int.reduceLE, Int.reduceAdd, Int.reduceSub, Int.reduceMul, Int.reduceNeg, Int.reduceToNat, Nat.reduceEqDiff, Nat.reduceLT, Nat.reduceLeDiff, Nat.reduceMul, List.replicate, reduceCtorEq, TB, NB, h1, h2, wrap64]
      simp
    · simp -dsimp (maxSteps := 4000000) (disch := first | omega | assumption | (simp only [FB, Nat.reduceAdd]; done) | (simp only [LB]; omega)) only [WB, Nat.reduceSub, Nat.reduceAdd, Int.reduceEq, Int.reduceNe, Int.reduceLT, Int.reduceLE, Int.reduceAdd, Int.reduceSub, Int.reduceMul, Int.reduceNeg, Int.reduceToNat, Nat.reduceEqDiff, Nat.reduceLT, Nat.reduceLeDiff, Nat.reduceMul, List.replicate, reduceCtorEq, TB, NB, h1, h2]
      simp
end Go.Proofs.YtpcaoohacgkeiaaAM
