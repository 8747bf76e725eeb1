/- Chapter 6: deleting. -/
import Derived.Test.YtpcaoohacgkeiaaP2
namespace Go.Proofs.YtpcaoohacgkeiaaAM
open Go Go.RowKit
set_option linter.unusedVariables false
set_option linter.unusedSimpArgs false
set_option maxRecDepth 10000
set_option maxHeartbeats 4000000

theorem delete41 (q : Nat) (v : Value) (l : List Bkt) (hl : l.length ≤ 5000000000000) (i : Nat) (hi : i < l.length) (a : AW) (hbq : a.base ≤ q) (hv : OwnS encB 3 a.heap a.next q v l) (K : Value → AW → Prop)
    (hK : ∀ v' n' h', a.next ≤ n' → OwnS encB 3 h' n' q v' (l.eraseIdx i) → (∀ j, j ≠ q → look j h' = look j a.heap) → K v' ⟨n', h', a.base, a.dirty⟩) :
    WCall Try.prog GV 41 [v, .int .i64 i, .int .i64 ((i + 1 : Nat) : Int)] a K := by
  rw [call_env Try.func41 rfl Try.ntmps41 rfl rfl (by simp)]
  rcases hv with ⟨rfl, rfl⟩ | ⟨sp, cap, c, rfl, hb, ht, h1, h2, h3, hq, hcf⟩
  · simp at hi
  · obtain ⟨v3, e3⟩ := slice3 (E := Try.prog) und24 size36 (p := ⟨q, 0, sp⟩) (len := l.length) (cap := cap) (k := .i64) (k' := .i64) (k'' := .i64) (i := (i : Int)) (j := ((i + 1 : Nat) : Int)) (m := (l.length : Int)) (by omega) (by omega) (by omega) (by omega)
    simp -dsimp (maxSteps := 4000000) (disch := first | omega | assumption | (simp only [FB, Nat.reduceAdd]; done) | (simp only [LB]; omega)) only [EB, ↓reduceIte, WB, Nat.reduceSub, Nat.reduceAdd, Int.reduceEq, Int.reduceNe, Int.reduceLT, Int.reduceLE, Int.reduceAdd, Int.reduceSub, Int.reduceMul, Int.reduceNeg, Int.reduceToNat, Nat.reduceEqDiff, Nat.reduceLT, Nat.reduceLeDiff, Nat.reduceMul, List.replicate, reduceCtorEq, TB, NB, e3, show ¬ ((i : Int) = ((i + 1 : Nat) : Int)) by omega]
    refine code_draw [(0, 1), (0, 3), (0, 4), (0, 5), (1, 3), (1, 4), (1, 5), (2, 3), (2, 4), (2, 5), (3, 4)] (by decide +kernel) (by decide +kernel) ?_
    have hsp : (⟨q, 0, sp⟩ : Addr).spot = none ∨ (⟨q, 0, sp⟩ : Addr).spot = some 0 ∨ (⟨q, 0, sp⟩ : Addr).spot = some (3 + 1) := .inr h3
    have s1 : sliceA Try.prog 24 (.slice (some ⟨q, 0, sp⟩) l.length cap) none (some (.int .i64 (i : Int))) none = some (.slice (some ⟨q, 0, sp⟩) i cap) := by
      have := slice_at (E := Try.prog) und24 size36 (p := ⟨q, 0, sp⟩) (len := l.length) (cap := cap) hsp (bnd_hi (k := .i64) (i := (i : Int)) (by omega) (by omega))
      simpa using this
    have hrv : RV encB 3 a.heap a.next (.slice (some ⟨q, 0, sp⟩) l.length cap) l := OwnS.rv (.inr ⟨sp, cap, c, rfl, hb, ht, h1, h2, h3, hq, hcf⟩)
    obtain ⟨v2, s2, r2, -⟩ := hrv.lo (E := Try.prog) encB_len und24 size36 (k := .i64) (i := ((i + 1 : Nat) : Int)) (by omega) (by omega)
    rw [Int.toNat_natCast] at r2
    have hdl : (l.drop (i + 1)).length = l.length - (i + 1) := List.length_drop
    obtain ⟨hlen, hcells⟩ := RV.cells (n' := a.next + 1) (bs := a.next + 1) (d := []) r2
    have hnew := flatMap_len encB_len (l.drop (i + 1))
    have hap := append_fit (E := Try.prog) (t0 := 24) (t1 := 24) (a := ⟨a.next + 1, a.heap, a.next + 1, []⟩) (p := ⟨q, 0, sp⟩) (len := i) (cap := cap) app24 hlen hcells hnew (allOne encB_one _) (by omega) (by rw [get_mk]; exact hb) (by simp only; omega)
    simp only [Nat.zero_add, hdl] at hap
    rw [write_soil] at hap
    have hc3 : c.take (i * 3) = (l.take i).flatMap encB := by
      have e1 : c.take (i * 3) = (c.take (l.length * 3)).take (i * 3) := by rw [List.take_take, Nat.min_eq_left (by omega)]
      have e2 : ((l.take i).flatMap encB).length = i * 3 := by rw [flatMap_len encB_len, List.length_take, Nat.min_eq_left (by omega)]
      rw [e1, ht]
      conv => lhs; rw [← List.take_append_drop i l, List.flatMap_append, ← e2, List.take_left]
    rw [hc3, ← List.append_assoc, ← eraseIdx_flat] at hap
    have hel : (l.eraseIdx i).length = l.length - 1 := by rw [List.length_eraseIdx_of_lt hi]
    have hfe := flatMap_len encB_len (l.eraseIdx i)
    rw [hel] at hfe
    rw [show i + (l.length - (i + 1)) = l.length - 1 by omega] at hap
    have hso : soilW (a.next + 1) [] q = [q] := by unfold soilW; rw [if_pos (by omega)]; rfl
    rw [hso] at hap
    have hs2 : soilAll [] a.next [q] = [q] := by simp [soilAll]; omega
    have hdr : i * 3 + (List.flatMap encB (List.drop (i + 1) l)).length = (l.length - 1) * 3 := by rw [hnew, hdl]; omega
    rw [hdr] at hap
    have s3 : sliceA Try.prog 24 (.slice (some ⟨q, 0, sp⟩) (l.length - 1) cap) (some (.int .i64 ((l.length - 1 : Nat) : Int))) (some (.int .i64 (l.length : Int))) none = some (.slice (some ⟨q, (l.length - 1) * 3, sp⟩) 1 (cap - (l.length - 1))) := by
      have := slice_at (E := Try.prog) und24 size36 (p := ⟨q, 0, sp⟩) (len := l.length - 1) (cap := cap) hsp (bnd_both (k := .i64) (k' := .i64) (i := ((l.length - 1 : Nat) : Int)) (j := (l.length : Int)) (by omega) (by omega) (by omega))
      rw [if_neg (by rw [Int.toNat_natCast]; omega), Int.toNat_natCast, Int.toNat_natCast, show l.length - (l.length - 1) = 1 by omega] at this
      simpa using this
    have hcl := clear_at (E := Try.prog) (t := 24) (nn := a.next + 1) (bs := a.next) (d := [q]) (h := putAt q (Blk.cells ((l.eraseIdx i).flatMap encB ++ c.drop ((l.length - 1) * 3)) true) a.heap) (p := ⟨q, (l.length - 1) * 3, sp⟩) (n := 1) (cp := cap - (l.length - 1)) elem24 z36 rfl rfl (by rw [look_wput_self, hb]; rfl) (by simp only [List.length_append, hfe, List.length_drop]; omega)
    have hso2 : soilW a.next [q] q = [q] := by unfold soilW; simp
    simp only [hso2] at hcl
    simp -dsimp (maxSteps := 4000000) (disch := first | omega | assumption | (simp only [FB, Nat.reduceAdd]; done) | (simp only [LB]; omega)) only [EB, ↓reduceIte, WB, Nat.reduceSub, Nat.reduceAdd, Int.reduceEq, Int.reduceNe, Int.reduceLT, Int.reduceLE, Int.reduceAdd, Int.reduceSub, Int.reduceMul, Int.reduceNeg, Int.reduceToNat, Nat.reduceEqDiff, Nat.reduceLT, Nat.reduceLeDiff, Nat.reduceMul, List.replicate, reduceCtorEq, RB, Nat.reduceEqDiff, TB, NB, s1, s2, hap, hs2, s3, op_clear, hcl]
    rw [leave_dirty (by simp) (by intro j hj; simp at hj; omega)]
    refine hK _ (a.next + 1) _ (by omega) (.inr ⟨sp, cap, _, by rw [hel]; rfl, by rw [look_wput_self, look_wput_self, hb]; rfl, ?_, by rw [hel]; omega, ?_, h3, by omega, fun hf => ?_⟩) fun j hj => by rw [look_wput_ne hj, look_wput_ne hj]
    · rw [hel, List.take_append_of_le_length (by simp only [List.length_take, List.length_append, hfe]; omega), List.take_take, Nat.min_self, List.take_append_of_le_length (by rw [hfe]; exact Nat.le_refl _), ← hfe, List.take_length]
    · simp only [List.length_append, List.length_take, hfe, List.length_drop, List.flatten_cons, List.flatten_nil, List.length_cons, List.length_nil]
      omega
    · have hc := hcf hf
      rw [List.all_eq_true] at hc ⊢
      intro u hu
      have hX : ∀ u ∈ (l.eraseIdx i).flatMap encB ++ c.drop ((l.length - 1) * 3), flat u = true := by
        intro u hu
        rcases List.mem_append.1 hu with hu | hu
        · exact List.all_eq_true.1 (allFlat encB_flat _) u hu
        · exact hc u (List.mem_of_mem_drop hu)
      rcases List.mem_append.1 hu with hu | hu
      · exact hX u (List.mem_of_mem_take hu)
      · rcases List.mem_append.1 hu with hu | hu
        · simp at hu; rcases hu with rfl | rfl | rfl <;> rfl
        · exact hX u (List.mem_of_mem_drop hu)
def delB (l : List Bkt) (s : List UInt8) : List Bkt := l.eraseIdx (fidx (nameIs s) l)
theorem del18 (v : Value) (l : List Bkt) (hl : l.length ≤ 5000000000000) (s : List UInt8) (a : AW) (m : Nat) (hm : m ≤ a.next) (hv : RV encB 3 a.heap m v l) (K : Value → AW → Prop)
    (hK : ∀ v' n' h', a.next ≤ n' → n' ≤ a.next + 1 → OwnS encB 3 h' n' a.next v' (delB l s) → (∀ j, j < a.next → look j h' = look j a.heap) → K v' ⟨n', h', a.base, a.dirty⟩) :
    WCall Try.prog GV 18 [v, .string (mkStr s)] a K := by
  rw [call_env Try.func18 rfl Try.ntmps18 rfl rfl (by simp)]
  have hle := fidx_le (p := nameIs s) l
  by_cases h1 : fidx (nameIs s) l < l.length
  · have hfb : findB l s = (fidx (nameIs s) l, true) := by unfold findB; rw [if_pos h1]
    have hfi := fun K => find16 v l hl s ⟨a.next, a.heap, a.next, []⟩ m hm hv K
    simp only [hfb] at hfi
    simp -dsimp (maxSteps := 4000000) (disch := first | omega | assumption | (simp only [FB, Nat.reduceAdd]; done) | (simp only [LB]; omega)) only [EB, ↓reduceIte, WB, Nat.reduceSub, Nat.reduceAdd, Int.reduceEq, Int.reduceNe, Int.reduceLT, Int.reduceLE, Int.reduceAdd, Int.reduceSub, Int.reduceMul, Int.reduceNeg, Int.reduceToNat, Nat.reduceEqDiff, Nat.reduceLT, Nat.reduceLeDiff, Nat.reduceMul, List.replicate, reduceCtorEq, TB, NB, hfi]
    refine clone39 v l hl ⟨a.next, a.heap, a.next, []⟩ m hm hv _ fun v1 n1 h1' x1 x2 x3 x4 => ?_
    have hix : fidx (nameIs s) l + 1 ≤ 5000000000000 := by omega
    simp -dsimp (maxSteps := 4000000) (disch := first | omega | assumption | (simp only [FB, Nat.reduceAdd]; done) | (simp only [LB]; omega)) only [EB, ↓reduceIte, WB, Nat.reduceSub, Nat.reduceAdd, Int.reduceEq, Int.reduceNe, Int.reduceLT, Int.reduceLE, Int.reduceAdd, Int.reduceSub, Int.reduceMul, Int.reduceNeg, Int.reduceToNat, Nat.reduceEqDiff, Nat.reduceLT, Nat.reduceLeDiff, Nat.reduceMul, List.replicate, reduceCtorEq, TB, NB, wrap64]
    refine delete41 a.next v1 l hl (fidx (nameIs s) l) h1 _ (Nat.le_refl _) x3 _ fun v2 n2 h2 y1 y2 y3 => ?_
    simp -dsimp (maxSteps := 4000000) (disch := first | omega | assumption | (simp only [FB, Nat.reduceAdd]; done) | (simp only [LB]; omega)) only [EB, ↓reduceIte, WB, Nat.reduceSub, Nat.reduceAdd, Int.reduceEq, Int.reduceNe, Int.reduceLT, Int.reduceLE, Int.reduceAdd, Int.reduceSub, Int.reduceMul, Int.reduceNeg, Int.reduceToNat, Nat.reduceEqDiff, Nat.reduceLT, Nat.reduceLeDiff, Nat.reduceMul, List.replicate, reduceCtorEq, TB, NB, ]
    exact leave_own encB_flat y2 (Nat.le_refl _) fun v' n' h' z1 z2 z3 z4 _ => hK v' n' h' z1 z2 z3 z4
  · have hfb : findB l s = (fidx (nameGe s) l, false) := by unfold findB; rw [if_neg h1]
    have hfi := fun K => find16 v l hl s ⟨a.next, a.heap, a.next, []⟩ m hm hv K
    simp only [hfb] at hfi
    simp -dsimp (maxSteps := 4000000) (disch := first | omega | assumption | (simp only [FB, Nat.reduceAdd]; done) | (simp only [LB]; omega)) only [EB, ↓reduceIte, WB, Nat.reduceSub, Nat.reduceAdd, Int.reduceEq, Int.reduceNe, Int.reduceLT, Int.reduceLE, Int.reduceAdd, Int.reduceSub, Int.reduceMul, Int.reduceNeg, Int.reduceToNat, Nat.reduceEqDiff, Nat.reduceLT, Nat.reduceLeDiff, Nat.reduceMul, List.replicate, reduceCtorEq, TB, NB, hfi]
    refine clone39 v l hl ⟨a.next, a.heap, a.next, []⟩ m hm hv _ fun v1 n1 h1' x1 x2 x3 x4 => ?_
    simp -dsimp (maxSteps := 4000000) (disch := first | omega | assumption | (simp only [FB, Nat.reduceAdd]; done) | (simp only [LB]; omega)) only [EB, ↓reduceIte, WB, Nat.reduceSub, Nat.reduceAdd, Int.reduceEq, Int.reduceNe, Int.reduceLT, Int.reduceLE, Int.reduceAdd, Int.reduceSub, Int.reduceMul, Int.reduceNeg, Int.reduceToNat, Nat.reduceEqDiff, Nat.reduceLT, Nat.reduceLeDiff, Nat.reduceMul, List.replicate, reduceCtorEq, TB, NB, ]
    have hd : delB l s = l := by unfold delB; exact List.eraseIdx_of_length_le (by omega)
    refine leave_own (a := a) encB_flat x3 (Nat.le_refl _) fun v' n' h' z1 z2 z3 z4 _ => hK v' n' h' z1 z2 (by rw [hd]; exact z3) z4
def sizeB (l : List Bkt) : Nat := (l.map fun b => 9 + b.name.length).sum
theorem sizeB_take (l : List Bkt) (i : Nat) (h : i < l.length) : sizeB (l.take (i + 1)) = sizeB (l.take i) + (9 + l[i].name.length) := by
  unfold sizeB
  rw [List.take_add_one, List.getElem?_eq_getElem h]
  simp only [Option.toList_some, List.map_append, List.map_cons, List.map_nil, List.sum_append, List.sum_cons, List.sum_nil, Nat.add_zero]
theorem sizeB_le (l : List Bkt) (h : ∀ b ∈ l, b.name.length ≤ 140737488355328) : sizeB l ≤ l.length * 140737488355337 := by
  induction l with
  | nil => simp [sizeB]
  | cons b l ih =>
    have h1 := h b (by simp)
    have h2 := ih fun x hx => h x (by simp [hx])
    simp only [sizeB, List.map_cons, List.sum_cons, List.length_cons] at *
    omega
theorem sizeB_upto (l : List Bkt) (i : Nat) : sizeB (l.take i) ≤ sizeB l := by
  have e : sizeB l = sizeB (l.take i) + sizeB (l.drop i) := by
    unfold sizeB
    rw [← List.sum_append, ← List.map_append, List.take_append_drop]
  omega
theorem sizeOf23 (v : Value) (l : List Bkt) (hl : l.length ≤ 5000000000000) (hs : sizeB l ≤ 4611686018427387904) (a : AW) (m : Nat) (hm : m ≤ a.next) (hv : RV encB 3 a.heap m v l) (K : Value → AW → Prop) :
    WCall Try.prog GV 23 [v] a K = K (.int .i64 (sizeB l)) a := by
  refine call_eq ?_ K
  rw [call_env Try.func23 rfl Try.ntmps23 rfl rfl (by simp)]
  obtain ⟨pp, c, rfl⟩ := hv.len
  simp -dsimp (maxSteps := 4000000) (disch := first | omega | assumption | (simp only [FB, Nat.reduceAdd]; done) | (simp only [LB]; omega)) only [EB, ↓reduceIte, WB, Nat.reduceSub, Nat.reduceAdd, Int.reduceEq, Int.reduceNe, Int.reduceLT, Int.reduceLE, Int.reduceAdd, Int.reduceSub, Int.reduceMul, Int.reduceNeg, Int.reduceToNat, Nat.reduceEqDiff, Nat.reduceLT, Nat.reduceLeDiff, Nat.reduceMul, List.replicate, reduceCtorEq, TB, NB, ]
  refine loop_inv (fun r t w => ∃ i n h, ∃ e : Nat → Value, r = l.length - i ∧ i ≤ l.length ∧ w = ⟨n, h, a.next, []⟩ ∧ a.next ≤ n ∧ (∀ j, j < a.next → look j h = look j a.heap) ∧ t = TT 19 e ∧ e 2 = .int .i64 (sizeB (l.take i)) ∧ e 5 = .slice pp l.length c ∧ e 6 = .int .i64 l.length ∧ e 7 = .int .i64 i) ⟨0, a.next, a.heap, _, rfl, by omega, rfl, Nat.le_refl _, fun _ _ => rfl, rfl, rfl, rfl, rfl, rfl⟩ ?_
  rintro r t w ⟨i, n, h, e, rfl, hi, rfl, hn1, hh, rfl, t2, t5, t6, t7⟩
  by_cases hlt : i < l.length
  · obtain ⟨b, o, sp, rw0, cc, rfl, hlk, hbn, hle, hat, -⟩ := hv.at encB_len hlt
    have hlk' : look b h = some (.cells cc rw0) := by rw [hh b (by omega)]; exact hlk
    have hst := sizeB_take l i hlt
    have hsl := sizeB_upto l (i + 1)
    simp -dsimp (maxSteps := 4000000) (disch := first | omega | assumption | (simp only [FB, Nat.reduceAdd]; done) | (simp only [LB]; omega)) only [EB, ↓reduceIte, WB, Nat.reduceSub, Nat.reduceAdd, Int.reduceEq, Int.reduceNe, Int.reduceLT, Int.reduceLE, Int.reduceAdd, Int.reduceSub, Int.reduceMul, Int.reduceNeg, Int.reduceToNat, Nat.reduceEqDiff, Nat.reduceLT, Nat.reduceLeDiff, Nat.reduceMul, List.replicate, reduceCtorEq, TB, NB, t2, t5, t6, t7, show (i : Int) < l.length by omega, hlk', hat, encB, wrap64]
    refine ⟨trivial, l.length - (i + 1), by omega, i + 1, n + 1, _, _, rfl, by omega, rfl, by omega, fun j hj => ?_, rfl, ?_⟩
    · rw [look_miss (by omega), hh j hj]
    · simp only [ups_at, ↓reduceIte, Nat.reduceEqDiff]
      refine ⟨?_, t5, t6, (by first | trivial | rfl | omega)⟩
      rw [hst]; congr 1
  · obtain rfl : i = l.length := by omega
    rw [List.take_length] at t2
    simp -dsimp (maxSteps := 4000000) (disch := first | omega | assumption | (simp only [FB, Nat.reduceAdd]; done) | (simp only [LB]; omega)) only [EB, ↓reduceIte, WB, Nat.reduceSub, Nat.reduceAdd, Int.reduceEq, Int.reduceNe, Int.reduceLT, Int.reduceLE, Int.reduceAdd, Int.reduceSub, Int.reduceMul, Int.reduceNeg, Int.reduceToNat, Nat.reduceEqDiff, Nat.reduceLT, Nat.reduceLeDiff, Nat.reduceMul, List.replicate, reduceCtorEq, TB, NB, t2, t5, t6, t7, show ¬ (l.length : Int) < l.length by omega]
    exact ⟨trivial, trivial⟩
end Go.Proofs.YtpcaoohacgkeiaaAM
