/- Chapter 13: the other cut of BuildFull. -/
import Derived.Test.YtijmlgccaicblaaB8
namespace Go.Proofs.YtijmlgccaicblaaAM
open Go Go.RowKit
set_option linter.unusedVariables false
set_option linter.unusedSimpArgs false
set_option maxRecDepth 10000
set_option maxHeartbeats 4000000


theorem inner4 (size : Int) (l : List It) (pp : Option Addr) (c : Nat) (pc : Option Addr) (lc cc0 : Nat) (V7 v1 : Value) (hll : l.length ≤ 100) (hokx : ∀ x ∈ l, x.key.length ≤ 140737488355328 ∧ x.val.length ≤ 140737488355328) (hbd : sizeI l ≤ 100000) (hs : 128 ≤ size ∧ size ≤ 4096) (n2 bs : Nat) (h2 : List (Nat × Blk)) (hv2 : RV encI 5 h2 n2 (.slice pp l.length c) l) (k0 at_ k : Nat) (hk1 : 1 ≤ k) (hk2 : at_ + k ≤ l.length) (e' : Nat → Value)
    (he : e' 0 = .int .i64 size ∧ e' 1 = .slice pp l.length c ∧ e' 2 = .slice pc lc cc0 ∧ e' 7 = V7 ∧ e' 9 = .int .i64 (size - 24) ∧ e' 11 = v1 ∧ e' 13 = .int .i64 (k0 : Nat) ∧ e' 14 = .int .i64 (at_ : Nat) ∧ e' 15 = .int .i64 (k0 : Nat)) (h16 : e' 16 = .int .i64 (k : Nat)) (Q : ExitA → List Value → List Nat → AW → Prop)
    (hQ : ∀ k' (e2 : Nat → Value), 1 ≤ k' → at_ + k' ≤ l.length → (k' = 1 ∨ (sizeI ((l.take (at_ + k')).drop at_) : Int) ≤ size - 24) → (e2 0 = .int .i64 size ∧ e2 1 = .slice pp l.length c ∧ e2 2 = .slice pc lc cc0 ∧ e2 7 = V7 ∧ e2 9 = .int .i64 (size - 24) ∧ e2 11 = v1 ∧ e2 13 = .int .i64 (k0 : Nat) ∧ e2 14 = .int .i64 (at_ : Nat) ∧ e2 15 = .int .i64 (k0 : Nat)) → e2 16 = .int .i64 (k' : Nat) → Q (.exit 4) (TT 157 e2) [] ⟨n2, h2, bs, []⟩) :
    WCode Try.prog GV 4 none (loopN Try.f4 2) (TT 157 e') [] ⟨n2, h2, bs, []⟩ Q := by
  refine loop_at rfl ?_
  refine loop_inv (fun r t w => ∃ k' : Nat, ∃ e : Nat → Value, r = k' ∧ 1 ≤ k' ∧ at_ + k' ≤ l.length ∧ w = ⟨n2, h2, bs, []⟩ ∧ t = TT 157 e ∧ (e 0 = .int .i64 size ∧ e 1 = .slice pp l.length c ∧ e 2 = .slice pc lc cc0 ∧ e 7 = V7 ∧ e 9 = .int .i64 (size - 24) ∧ e 11 = v1 ∧ e 13 = .int .i64 (k0 : Nat) ∧ e 14 = .int .i64 (at_ : Nat) ∧ e 15 = .int .i64 (k0 : Nat)) ∧ e 16 = .int .i64 (k' : Nat)) ⟨k, e', rfl, hk1, hk2, rfl, rfl, he, h16⟩ ?_
  rintro k' t w ⟨_, e, rfl, hk1, hk2, rfl, rfl, ⟨t0, t1, t2, t7, t9, t11, t13, t14, t15⟩, t16⟩
  by_cases hk : 1 < k'
  · obtain ⟨w1, s1, r1, -⟩ := hv2.both (E := Try.prog) encI_len und31 size42 (k := .i64) (k' := .i64) (i := (at_ : Int)) (j := (at_ : Int) + k') (by omega) (by omega) (by omega)
    rw [show ((at_ : Int) + k').toNat = at_ + k' by omega, Int.toNat_natCast] at r1
    have hsg := sizeI_seg l at_ (at_ + k') (by omega)
    have hsu := sizeI_upto l (at_ + k')
    have hsz := fun K => size17 w1 ((l.take (at_ + k')).drop at_) (by rw [List.length_drop, List.length_take]; omega) (by omega) (fun x hx' => hokx x (List.mem_of_mem_take (List.mem_of_mem_drop hx'))) ⟨n2, h2, bs, []⟩ n2 (Nat.le_refl _) r1 K
    by_cases hgt : size - 24 < (sizeI ((l.take (at_ + k')).drop at_) : Int)
    · simp -dsimp (maxSteps := 4000000) (disch := first | omega | assumption | (simp only [FB, Nat.reduceAdd]; done) | (simp only [LB]; omega)) only [EB, ↓reduceIte, WB, Nat.reduceSub, Nat.reduceAdd, Int.reduceEq, Int.reduceNe, Int.reduceLT, Int.reduceLE, Int.reduceAdd, Int.reduceSub, Int.reduceMul, Int.reduceNeg, Int.reduceToNat, Nat.reduceEqDiff, Nat.reduceLT, Nat.reduceLeDiff, Nat.reduceMul, List.replicate, reduceCtorEq, TB, NB, t0, t1, t2, t7, t9, t11, t13, t14, t15, t16, show (1 : Int) < k' by omega, wrap64, s1, hsz, hgt]
      refine ⟨trivial, k' - 1, by omega, k' - 1, _, rfl, by omega, by omega, (by first | trivial | rfl | omega), rfl, ?_⟩
      simp only [ups_at, ↓reduceIte, Nat.reduceEqDiff]; exact ⟨⟨t0, t1, t2, t7, t9, t11, t13, t14, t15⟩, by rw [show ((k' - 1 : Nat) : Int) = (k' : Int) - 1 by omega]⟩
    · simp -dsimp (maxSteps := 4000000) (disch := first | omega | assumption | (simp only [FB, Nat.reduceAdd]; done) | (simp only [LB]; omega)) only [EB, ↓reduceIte, WB, Nat.reduceSub, Nat.reduceAdd, Int.reduceEq, Int.reduceNe, Int.reduceLT, Int.reduceLE, Int.reduceAdd, Int.reduceSub, Int.reduceMul, Int.reduceNeg, Int.reduceToNat, Nat.reduceEqDiff, Nat.reduceLT, Nat.reduceLeDiff, Nat.reduceMul, List.replicate, reduceCtorEq, TB, NB, t0, t1, t2, t7, t9, t11, t13, t14, t15, t16, show (1 : Int) < k' by omega, wrap64, s1, hsz, hgt]
      refine hQ k' _ hk1 hk2 (.inr (by omega)) ?_ ?_ <;> simp only [ups_at, ↓reduceIte, Nat.reduceEqDiff]
      · exact ⟨t0, t1, t2, t7, t9, t11, t13, t14, t15⟩
      · exact t16
  · simp -dsimp (maxSteps := 4000000) (disch := first | omega | assumption | (simp only [FB, Nat.reduceAdd]; done) | (simp only [LB]; omega)) only [EB, ↓reduceIte, WB, Nat.reduceSub, Nat.reduceAdd, Int.reduceEq, Int.reduceNe, Int.reduceLT, Int.reduceLE, Int.reduceAdd, Int.reduceSub, Int.reduceMul, Int.reduceNeg, Int.reduceToNat, Nat.reduceEqDiff, Nat.reduceLT, Nat.reduceLeDiff, Nat.reduceMul, List.replicate, reduceCtorEq, TB, NB, t0, t1, t2, t7, t9, t11, t13, t14, t15, t16, show ¬ (1 : Int) < k' by omega]
    refine hQ k' _ hk1 hk2 (.inl (by omega)) ?_ ?_ <;> simp only [ups_at, ↓reduceIte, Nat.reduceEqDiff]
    · exact ⟨t0, t1, t2, t7, t9, t11, t13, t14, t15⟩
    · exact t16
theorem outer4 (size : Int) (l : List It) (pp : Option Addr) (c : Nat) (pc : Option Addr) (cc0 : Nat) (cu : List Int) (V7 v1 : Value) (hll : l.length ≤ 100) (hlc : cu.length ≤ 100) (hokx : ∀ x ∈ l, x.key.length ≤ 140737488355328 ∧ x.val.length ≤ 140737488355328) (hcu : ∀ c ∈ cu, -9223372036854775808 ≤ c ∧ c ≤ 9223372036854775807) (hbd : sizeI l ≤ 100000) (hgs : goodSz size) (n2 bs : Nat) (h2 : List (Nat × Blk)) (hv2 : RV encI 5 h2 n2 (.slice pp l.length c) l) (hc2 : RV encN 1 h2 n2 (.slice pc cu.length cc0) cu)
    (P : Nat) (E : List Int) (hP : P = E.length) (hup : upTo l.length 0 E) (hfp : fullP l (room size) 0 E) (hla : lastIs l.length 0 E) (e' : Nat → Value) (he : e' 0 = .int .i64 size ∧ e' 1 = .slice pp l.length c ∧ e' 2 = .slice pc cu.length cc0 ∧ e' 7 = V7 ∧ e' 9 = .int .i64 (size - 24) ∧ e' 11 = v1 ∧ e' 13 = .int .i64 (0 : Nat) ∧ e' 14 = .int .i64 (0 : Nat) ∧ e' 15 = .int .i64 (0 : Nat)) (Q : ExitA → List Value → List Nat → AW → Prop)
    (hQ : ∀ (k0 at_ : Nat) (e2 : Nat → Value), P ≤ k0 → k0 ≤ 100 → (e2 0 = .int .i64 size ∧ e2 1 = .slice pp l.length c ∧ e2 2 = .slice pc cu.length cc0 ∧ e2 7 = V7 ∧ e2 9 = .int .i64 (size - 24) ∧ e2 11 = v1 ∧ e2 13 = .int .i64 (k0 : Nat) ∧ e2 14 = .int .i64 (at_ : Nat) ∧ e2 15 = .int .i64 (k0 : Nat)) → Q (.exit 2) (TT 157 e2) [] ⟨n2, h2, bs, []⟩) :
    WCode Try.prog GV 4 none (loopN Try.f4 1) (TT 157 e') [] ⟨n2, h2, bs, []⟩ Q := by
  have hrs : room size = size - 24 := by unfold room; rw [if_pos hgs]
  have hgs' := hgs
  simp only [goodSz] at hgs'
  refine loop_at rfl ?_
  refine loop_inv (fun r t w => ∃ k0 at_ f E', ∃ e : Nat → Value, r = l.length - at_ ∧ at_ ≤ l.length ∧ k0 ≤ at_ ∧ at_ ≤ f ∧ upTo l.length f E' ∧ fullP l (room size) f E' ∧ lastIs l.length f E' ∧ P ≤ k0 + E'.length ∧ w = ⟨n2, h2, bs, []⟩ ∧ t = TT 157 e ∧ e 0 = .int .i64 size ∧ e 1 = .slice pp l.length c ∧ e 2 = .slice pc cu.length cc0 ∧ e 7 = V7 ∧ e 9 = .int .i64 (size - 24) ∧ e 11 = v1 ∧ e 13 = .int .i64 (k0 : Nat) ∧ e 14 = .int .i64 (at_ : Nat) ∧ e 15 = .int .i64 (k0 : Nat))
    ⟨0, 0, 0, E, e', rfl, by omega, Nat.le_refl _, Nat.le_refl _, hup, hfp, hla, by omega, rfl, rfl, he⟩ ?_
  rintro r t w ⟨k0, at_, f, E', e, rfl, hat, hka, haf, u1, u2, u3, hcnt, rfl, rfl, t0, t1, t2, t7, t9, t11, t13, t14, t15⟩
  by_cases hlt2 : at_ < l.length
  · by_cases h : k0 < cu.length
    · have hb := pickN_bd cu[k0] ((l.length : Int) - at_) (by omega)
      obtain ⟨k, hkk⟩ : ∃ k : Nat, (k : Int) = 1 + pickN cu[k0] ((l.length : Int) - at_) := ⟨(1 + pickN cu[k0] ((l.length : Int) - at_)).toNat, by omega⟩
      obtain ⟨b, o, sp, rw0, cc, rfl, hlk, hbn, hle, hatc, hkc⟩ := hc2.at encN_len h
      have hxc : cc[o + k0]? = some (.int .i64 cu[k0]) := by have := hkc 0 (by omega); simpa [encN] using this
      have hpk := fun a K => pick10 cu[k0] ((l.length : Int) - at_) (hcu _ (List.getElem_mem h)) (by omega) a K
      simp -dsimp (maxSteps := 4000000) (disch := first | omega | assumption | (simp only [FB, Nat.reduceAdd]; done) | (simp only [LB]; omega)) only [EB, ↓reduceIte, WB, Nat.reduceSub, Nat.reduceAdd, Int.reduceEq, Int.reduceNe, Int.reduceLT, Int.reduceLE, Int.reduceAdd, Int.reduceSub, Int.reduceMul, Int.reduceNeg, Int.reduceToNat, Nat.reduceEqDiff, Nat.reduceLT, Nat.reduceLeDiff, Nat.reduceMul, List.replicate, reduceCtorEq, TB, NB, t0, t1, t2, t7, t9, t11, t13, t14, t15, show (at_ : Int) < l.length by omega, show (k0 : Int) < cu.length by omega, wrap64, hlk, hxc, hpk, ← hkk]
      refine inner4 size l pp c (some ⟨b, o, sp⟩) cu.length cc0 V7 v1 hll hokx hbd (by omega) n2 bs h2 hv2 k0 at_ k (by omega) (by omega) _ ?_ ?_ _ fun k' e2 y1 y2 y3 y4 y5 => ?_
      · simp only [ups_at, ↓reduceIte, Nat.reduceEqDiff]; exact ⟨t0, t1, t2, t7, t9, t11, t13, t14, t15⟩
      · simp only [ups_at, ↓reduceIte, Nat.reduceEqDiff]
      · obtain ⟨z0, z1, z2, z7, z9, z11, z13, z14, z15⟩ := y4
        obtain ⟨f', E2, w1, w2, w3, w4, w5⟩ := behind l (room size) at_ k' f E' u1 u2 u3 haf y1 y2 (by omega)
        simp -dsimp (maxSteps := 4000000) (disch := first | omega | assumption | (simp only [FB, Nat.reduceAdd]; done) | (simp only [LB]; omega)) only [EB, ↓reduceIte, WB, Nat.reduceSub, Nat.reduceAdd, Int.reduceEq, Int.reduceNe, Int.reduceLT, Int.reduceLE, Int.reduceAdd, Int.reduceSub, Int.reduceMul, Int.reduceNeg, Int.reduceToNat, Nat.reduceEqDiff, Nat.reduceLT, Nat.reduceLeDiff, Nat.reduceMul, List.replicate, reduceCtorEq, TB, NB, z0, z1, z2, z7, z9, z11, z13, z14, z15, y5, wrap64]
        refine ⟨trivial, l.length - (at_ + k'), by omega, k0 + 1, at_ + k', f', E2, _, rfl, by omega, by omega, w4, w1, w2, w3, by omega, (by first | trivial | rfl | omega), rfl, ?_⟩
        simp only [ups_at, ↓reduceIte, Nat.reduceEqDiff]; exact ⟨z0, z1, z2, z7, z9, z11, (by first | trivial | rfl | omega), (by first | trivial | rfl | omega), (by first | trivial | rfl | omega)⟩
    · simp -dsimp (maxSteps := 4000000) (disch := first | omega | assumption | (simp only [FB, Nat.reduceAdd]; done) | (simp only [LB]; omega)) only [EB, ↓reduceIte, WB, Nat.reduceSub, Nat.reduceAdd, Int.reduceEq, Int.reduceNe, Int.reduceLT, Int.reduceLE, Int.reduceAdd, Int.reduceSub, Int.reduceMul, Int.reduceNeg, Int.reduceToNat, Nat.reduceEqDiff, Nat.reduceLT, Nat.reduceLeDiff, Nat.reduceMul, List.replicate, reduceCtorEq, TB, NB, t0, t1, t2, t7, t9, t11, t13, t14, t15, show (at_ : Int) < l.length by omega, show ¬ (k0 : Int) < cu.length by omega, wrap64]
      refine inner4 size l pp c pc cu.length cc0 V7 v1 hll hokx hbd (by omega) n2 bs h2 hv2 k0 at_ 1 (by omega) (by omega) _ ?_ ?_ _ fun k' e2 y1 y2 y3 y4 y5 => ?_
      · simp only [ups_at, ↓reduceIte, Nat.reduceEqDiff]; exact ⟨t0, t1, t2, t7, t9, t11, t13, t14, t15⟩
      · simp only [ups_at, ↓reduceIte, Nat.reduceEqDiff]; rfl
      · obtain ⟨z0, z1, z2, z7, z9, z11, z13, z14, z15⟩ := y4
        obtain ⟨f', E2, w1, w2, w3, w4, w5⟩ := behind l (room size) at_ k' f E' u1 u2 u3 haf y1 y2 (by omega)
        simp -dsimp (maxSteps := 4000000) (disch := first | omega | assumption | (simp only [FB, Nat.reduceAdd]; done) | (simp only [LB]; omega)) only [EB, ↓reduceIte, WB, Nat.reduceSub, Nat.reduceAdd, Int.reduceEq, Int.reduceNe, Int.reduceLT, Int.reduceLE, Int.reduceAdd, Int.reduceSub, Int.reduceMul, Int.reduceNeg, Int.reduceToNat, Nat.reduceEqDiff, Nat.reduceLT, Nat.reduceLeDiff, Nat.reduceMul, List.replicate, reduceCtorEq, TB, NB, z0, z1, z2, z7, z9, z11, z13, z14, z15, y5, wrap64]
        refine ⟨trivial, l.length - (at_ + k'), by omega, k0 + 1, at_ + k', f', E2, _, rfl, by omega, by omega, w4, w1, w2, w3, by omega, (by first | trivial | rfl | omega), rfl, ?_⟩
        simp only [ups_at, ↓reduceIte, Nat.reduceEqDiff]; exact ⟨z0, z1, z2, z7, z9, z11, (by first | trivial | rfl | omega), (by first | trivial | rfl | omega), (by first | trivial | rfl | omega)⟩
  · have hE' := lastIs_done u1 u3 (show l.length ≤ f by omega)
    rw [hE'] at hcnt
    simp only [List.length_nil, Nat.add_zero] at hcnt
    simp -dsimp (maxSteps := 4000000) (disch := first | omega | assumption | (simp only [FB, Nat.reduceAdd]; done) | (simp only [LB]; omega)) only [EB, ↓reduceIte, WB, Nat.reduceSub, Nat.reduceAdd, Int.reduceEq, Int.reduceNe, Int.reduceLT, Int.reduceLE, Int.reduceAdd, Int.reduceSub, Int.reduceMul, Int.reduceNeg, Int.reduceToNat, Nat.reduceEqDiff, Nat.reduceLT, Nat.reduceLeDiff, Nat.reduceMul, List.replicate, reduceCtorEq, TB, NB, t0, t1, t2, t7, t9, t11, t13, t14, t15, show ¬ (at_ : Int) < l.length by omega]
    refine hQ k0 at_ _ hcnt (by omega) ?_
    simp only [ups_at, ↓reduceIte, Nat.reduceEqDiff]
    exact ⟨t0, t1, t2, t7, t9, t11, t13, t14, t15⟩
end Go.Proofs.YtijmlgccaicblaaAM
