/- Chapter 14: slices.Delete of the first. -/
import Derived.Test.YtlbmjpmonaekgaaD0
namespace Go.Proofs.YtlbmjpmonaekgaaAM
open Go Go.RowKit
set_option linter.unusedVariables false
set_option linter.unusedSimpArgs false
set_option maxRecDepth 10000
set_option maxHeartbeats 4000000

theorem cut34 : CutWalk Try.prog GI 34 1 [.int .u32 0] := by
  intro p n c a cs hp hgp hcl hn hnc hn9 hco hcf
  rw [Nat.mul_one] at hcl
  rw [call_env Try.func34 rfl Try.ntmps34 rfl rfl (by simp)]
  obtain ⟨v3, e3⟩ := slice3 (E := Try.prog) und25 size27 (p := ⟨p, 0, some 0⟩) (len := n) (cap := c) (k := .i64) (k' := .i64) (k'' := .i64) (i := 0) (j := 1) (m := (n : Int)) (by omega) (by omega) (by omega) (by omega)
  simp -dsimp (maxSteps := 4000000) (disch := first | omega | assumption | (simp only [FB, Nat.reduceAdd]; done) | (simp only [LB]; omega)) only [EB, ↓reduceIte, WB, Nat.reduceSub, Nat.reduceAdd, Int.reduceEq, Int.reduceNe, Int.reduceLT, Int.reduceLE, Int.reduceAdd, Int.reduceSub, Int.reduceMul, Int.reduceNeg, Int.reduceToNat, Nat.reduceEqDiff, Nat.reduceLT, Nat.reduceLeDiff, Nat.reduceMul, List.replicate, reduceCtorEq, TB, NB, MB, e3, show ¬ ((0 : Int) = 1) by omega]
  refine code_draw [(0, 1), (0, 3), (0, 4), (0, 5), (1, 3), (1, 4), (1, 5), (2, 3), (2, 4), (2, 5), (3, 4)] (by decide +kernel) (by decide +kernel) ?_
  have s1 := sl_hi (p := p) (o := 0) (sp := some 0) (n := n) (c := c) (i := 0) (j := 0) rfl (.inr (.inl rfl)) (by omega)
  have s2 := sl_lo (p := p) (o := 0) (sp := some 0) (n := n) (c := c) (i := 1) (j := 1) rfl (.inr (.inl rfl)) (by omega)
  obtain ⟨o2, ho2⟩ : ∃ o2, o2 = if (some 0 : Option Nat) = some 0 ∧ c = 1 then 0 else 0 + 1 := ⟨_, rfl⟩
  rw [← ho2] at s2
  have hdl : (cs.drop 1).length = n - 1 := by rw [List.length_drop]; omega
  have hone : (cs.drop 1).all Value.oneCell' = true := by
    rw [List.all_eq_true] at hco ⊢
    exact fun u hu => hco u (List.mem_of_mem_drop hu)
  have hsc : sliceCells 1 (.slice (some ⟨p, o2, some 0⟩) (n - 1) (c - 1)) ⟨a.next + 1, a.heap, a.next + 1, []⟩ = some (cs.drop 1) := by
    rw [sliceCells_at (a := ⟨a.next + 1, a.heap, a.next + 1, []⟩) (p := ⟨p, o2, some 0⟩) hgp (by simp only; rw [ho2]; split <;> omega)]
    simp only [Nat.mul_one]
    rw [ho2]
    split
    · have : n = 1 := by omega
      subst this
      rw [List.take_zero]
      exact congrArg some (List.eq_nil_of_length_eq_zero hdl).symm
    · rw [Nat.zero_add, List.take_of_length_le (by omega)]
  have hap := append_fit (E := Try.prog) (t0 := 25) (t1 := 25) (a := ⟨a.next + 1, a.heap, a.next + 1, []⟩) (p := ⟨p, 0, some 0⟩) (len := 0) (cap := c) app25 (n := n - 1) rfl hsc (by rw [hdl, Nat.mul_one]) hone (by omega) (by rw [get_mk]; exact hgp) (by simp only; omega)
  simp only [Nat.zero_add, Nat.zero_mul, List.take_zero, List.nil_append, hdl] at hap
  rw [write_soil] at hap
  have hso : soilW (a.next + 1) [] p = [p] := by unfold soilW; rw [if_pos (by omega)]; rfl
  rw [hso] at hap
  have hs2 : soilAll [] a.next [p] = [p] := by simp [soilAll]; omega
  have s3 : sliceA Try.prog 25 (.slice (some ⟨p, 0, some 0⟩) (n - 1) c) (some (.int .i64 ((n - 1 : Nat) : Int))) (some (.int .i64 (n : Int))) none = some (.slice (some ⟨p, n - 1, some 0⟩) 1 (c - (n - 1))) := by
    have := slice_at (E := Try.prog) und25 size27 (p := ⟨p, 0, some 0⟩) (len := n - 1) (cap := c) (.inr (.inl rfl)) (bnd_both (k := .i64) (k' := .i64) (i := ((n - 1 : Nat) : Int)) (j := (n : Int)) (by omega) (by omega) (by omega))
    rw [if_neg (by rw [Int.toNat_natCast]; omega), Int.toNat_natCast, Int.toNat_natCast, show n - (n - 1) = 1 by omega] at this
    simpa using this
  have hX : (cs.drop 1 ++ cs.drop (n - 1)).length = n := by rw [List.length_append, hdl, List.length_drop]; omega
  have hcl2 := clear_at (E := Try.prog) (t := 25) (nn := a.next + 1) (bs := a.next) (d := [p]) (h := putAt p (Blk.cells (cs.drop 1 ++ cs.drop (n - 1)) true) a.heap) (p := ⟨p, n - 1, some 0⟩) (n := 1) (cp := c - (n - 1)) elem25 z27 rfl rfl (c := cs.drop 1 ++ cs.drop (n - 1)) (by rw [look_wput_self]; have hb : look p a.heap = some (.cells cs true) := hgp; rw [hb]; rfl) (by simp only; omega)
  have hso2 : soilW a.next [p] p = [p] := by unfold soilW; simp
  simp only [hso2] at hcl2
  simp -dsimp (maxSteps := 4000000) (disch := first | omega | assumption | (simp only [FB, Nat.reduceAdd]; done) | (simp only [LB]; omega)) only [EB, ↓reduceIte, WB, Nat.reduceSub, Nat.reduceAdd, Int.reduceEq, Int.reduceNe, Int.reduceLT, Int.reduceLE, Int.reduceAdd, Int.reduceSub, Int.reduceMul, Int.reduceNeg, Int.reduceToNat, Nat.reduceEqDiff, Nat.reduceLT, Nat.reduceLeDiff, Nat.reduceMul, List.replicate, reduceCtorEq, RB, Nat.reduceEqDiff, TB, NB, MB, s1, s2, hap, hs2, s3, op_clear, hcl2]
  have htk : List.take (n - 1) (cs.drop 1 ++ cs.drop (n - 1)) = cs.drop 1 := by rw [← hdl, List.take_left]
  rw [leave_soiled, putAt_twice, htk]
  exact ⟨rfl, rfl⟩
def GC : Gives := withCut 34 1 GI
theorem cut_ok : GC.Sound Try.prog := cut_sound mixed plain ins_ok cut34
end Go.Proofs.YtlbmjpmonaekgaaAM
