/- Chapter 6: the reference's reader, size, find, set, delete. -/
import Derived.Test.YtpcaoohacgkeiaaR0
namespace Go.Proofs.YtpcaoohacgkeiaaAM
open Go Go.RowKit
set_option linter.unusedVariables false
set_option linter.unusedSimpArgs false
set_option maxRecDepth 10000
set_option maxHeartbeats 4000000

theorem new46 (s : List UInt8) (a : AW) (K : Value → AW → Prop) : WCall Try.prog GV 46 [.string (mkStr s)] a K = K (.pointer (some ⟨a.next, 0, none⟩)) ⟨a.next + 1, (a.next, .cells [.string (mkStr s)] true) :: a.heap, a.base, a.dirty⟩ := by
  refine call_eq ?_ K
  rw [call_env Try.func46 rfl Try.ntmps46 rfl rfl (by simp)]
  simp -dsimp (maxSteps := 4000000) (disch := first | omega | assumption | (simp only [FB, Nat.reduceAdd]; done) | (simp only [LB]; omega)) only [EB, ↓reduceIte, WB, Nat.reduceSub, Nat.reduceAdd, Int.reduceEq, Int.reduceNe, Int.reduceLT, Int.reduceLE, Int.reduceAdd, Int.reduceSub, Int.reduceMul, Int.reduceNeg, Int.reduceToNat, Nat.reduceEqDiff, Nat.reduceLT, Nat.reduceLeDiff, Nat.reduceMul, List.replicate, reduceCtorEq, TB, NB, ]
  rw [leave_freshPtr (Nat.le_refl _) look_self rfl]
  exact ⟨rfl, rfl⟩
theorem number47c (q : Nat) (s : List UInt8) (n : Nat) (hn1 : 1 ≤ n) (hn : n ≤ 8) (hs : s.length ≤ 1000000) (a : AW) (hq : look q a.heap = some (.cells [.string (mkStr s)] true)) (hqn : q < a.next) (hbq : a.base ≤ q) (K : Value → AW → Prop)
    (hK : ∀ h', look q h' = some (.cells [.string (mkStr (numR s n).2)] true) → (∀ j, j ≠ q → look j h' = look j a.heap) → K (.tuple #[.int .u64 (numR s n).1, .int .i64 (if s.length < n then 7 else 0)]) ⟨a.next, h', a.base, a.dirty⟩) :
    WCall Try.prog GV 47 [.pointer (some ⟨q, 0, none⟩), .int .i64 n] a K := by
  have hn1' : (1 : Int) ≤ n := by omega
  rw [call_env Try.func47 rfl Try.ntmps47 rfl rfl (by simp)]
  by_cases h : s.length < n
  · simp -dsimp (maxSteps := 4000000) (disch := first | omega | assumption | (simp only [FB, Nat.reduceAdd]; done) | (simp only [LB]; omega)) only [EB, ↓reduceIte, WB, Nat.reduceSub, Nat.reduceAdd, Int.reduceEq, Int.reduceNe, Int.reduceLT, Int.reduceLE, Int.reduceAdd, Int.reduceSub, Int.reduceMul, Int.reduceNeg, Int.reduceToNat, Nat.reduceEqDiff, Nat.reduceLT, Nat.reduceLeDiff, Nat.reduceMul, List.replicate, reduceCtorEq, TB, NB, show ¬ (n : Int) < 1 by omega, show ¬ (8 : Int) < n by omega, hq, show (s.length : Int) < n by omega]
    have := hK a.heap (by rw [numR, if_pos h]; exact hq) fun _ _ => rfl
    rw [numR, if_pos h, if_pos h] at this
    exact this
  · simp -dsimp (maxSteps := 4000000) (disch := first | omega | assumption | (simp only [FB, Nat.reduceAdd]; done) | (simp only [LB]; omega)) only [EB, ↓reduceIte, WB, Nat.reduceSub, Nat.reduceAdd, Int.reduceEq, Int.reduceNe, Int.reduceLT, Int.reduceLE, Int.reduceAdd, Int.reduceSub, Int.reduceMul, Int.reduceNeg, Int.reduceToNat, Nat.reduceEqDiff, Nat.reduceLT, Nat.reduceLeDiff, Nat.reduceMul, List.replicate, reduceCtorEq, TB, NB, show ¬ (n : Int) < 1 by omega, show ¬ (8 : Int) < n by omega, hq, show ¬ (s.length : Int) < n by omega]
    refine loop_inv (fun r t w => ∃ i, ∃ e : Nat → Value, r = n - i ∧ i ≤ n ∧ w = ⟨a.next, a.heap, a.next, []⟩ ∧ t = TT 49 e ∧ e 0 = .pointer (some ⟨q, 0, none⟩) ∧ e 1 = .int .i64 n ∧ e 6 = .int .u64 (leVal (s.take i)) ∧ e 7 = .int .i64 i) ⟨0, _, rfl, by omega, rfl, rfl, rfl, rfl, rfl, rfl⟩ ?_
    rintro r t w ⟨i, e, rfl, hi, rfl, rfl, t0, t1, t6, t7⟩
    by_cases hlt : i < n
    · have hlt2 : leVal (s.take i) < 256 ^ i := by
        have := leVal_lt (s.take i)
        rwa [List.length_take, Nat.min_eq_left (by omega)] at this
      have hor := or_step (leVal (s.take i)) (s.getD i 0).toNat i (by omega) hlt2 (s.getD i 0).toNat_lt
      rw [← leVal_take s i (by omega)] at hor
      have hb := (s.getD i 0).toNat_lt
      simp -dsimp (maxSteps := 4000000) (disch := first | omega | assumption | (simp only [FB, Nat.reduceAdd]; done) | (simp only [LB]; omega)) only [EB, ↓reduceIte, WB, Nat.reduceSub, Nat.reduceAdd, Int.reduceEq, Int.reduceNe, Int.reduceLT, Int.reduceLE, Int.reduceAdd, Int.reduceSub, Int.reduceMul, Int.reduceNeg, Int.reduceToNat, Nat.reduceEqDiff, Nat.reduceLT, Nat.reduceLeDiff, Nat.reduceMul, List.replicate, reduceCtorEq, TB, NB, t0, t1, t6, t7, hq, show (i : Int) < n by omega, show (i : Int) < s.length by omega, show (0 : Int) ≤ (i : Int) by omega, wrap64, wrapu64, bin_shl, bin_or, Int.toNat_natCast]
      rw [hor]
      refine ⟨trivial, n - (i + 1), by omega, i + 1, _, rfl, by omega, (by first | trivial | rfl | omega), rfl, ?_⟩
      simp only [ups_at, ↓reduceIte, Nat.reduceEqDiff]
      exact ⟨t0, t1, trivial, (by first | trivial | rfl | omega)⟩
    · obtain rfl : i = n := by omega
      simp -dsimp (maxSteps := 4000000) (disch := first | omega | assumption | (simp only [FB, Nat.reduceAdd]; done) | (simp only [LB]; omega)) only [EB, ↓reduceIte, WB, Nat.reduceSub, Nat.reduceAdd, Int.reduceEq, Int.reduceNe, Int.reduceLT, Int.reduceLE, Int.reduceAdd, Int.reduceSub, Int.reduceMul, Int.reduceNeg, Int.reduceToNat, Nat.reduceEqDiff, Nat.reduceLT, Nat.reduceLeDiff, Nat.reduceMul, List.replicate, reduceCtorEq, TB, NB, t0, t1, t6, t7, hq, show ¬ (i : Int) < i by omega, show (0 : Int) ≤ (i : Int) by omega, show (i : Int) ≤ s.length by omega]
      have hso : soilW a.next [] q = [q] := by unfold soilW; rw [if_pos hqn]; rfl
      have hsa : soilAll a.dirty a.base [q] = a.dirty := by simp [soilAll]; omega
      rw [write_soil, hso, leave_soiled, hsa]
      have := hK (putAt q (.cells [.string (mkStr (s.drop i))] true) a.heap) (by rw [numR, if_neg h, look_wput_self, hq]; rfl) fun j hj => look_wput_ne hj
      rw [numR, if_neg h, if_neg h] at this
      exact this
theorem bytes48c (q : Nat) (s : List UInt8) (n : Nat) (hn : n ≤ 1000000) (hs : s.length ≤ 1000000) (a : AW) (hq : look q a.heap = some (.cells [.string (mkStr s)] true)) (hqn : q < a.next) (hbq : a.base ≤ q) (K : Value → AW → Prop)
    (hK : ∀ h', look q h' = some (.cells [.string (mkStr (bytR s n).2)] true) → (∀ j, j ≠ q → look j h' = look j a.heap) → K (.tuple #[.string (mkStr (bytR s n).1), .int .i64 (if s.length < n then 7 else 0)]) ⟨a.next, h', a.base, a.dirty⟩) :
    WCall Try.prog GV 48 [.pointer (some ⟨q, 0, none⟩), .int .i64 n] a K := by
  rw [call_env Try.func48 rfl Try.ntmps48 rfl rfl (by simp)]
  by_cases h : s.length < n
  · simp -dsimp (maxSteps := 4000000) (disch := first | omega | assumption | (simp only [FB, Nat.reduceAdd]; done) | (simp only [LB]; omega)) only [EB, ↓reduceIte, WB, Nat.reduceSub, Nat.reduceAdd, Int.reduceEq, Int.reduceNe, Int.reduceLT, Int.reduceLE, Int.reduceAdd, Int.reduceSub, Int.reduceMul, Int.reduceNeg, Int.reduceToNat, Nat.reduceEqDiff, Nat.reduceLT, Nat.reduceLeDiff, Nat.reduceMul, List.replicate, reduceCtorEq, TB, NB, show ¬ (n : Int) < 0 by omega, hq, show (s.length : Int) < n by omega]
    have := hK a.heap (by rw [bytR, if_pos h]; exact hq) fun _ _ => rfl
    rw [bytR, if_pos h, if_pos h] at this
    exact this
  · simp -dsimp (maxSteps := 4000000) (disch := first | omega | assumption | (simp only [FB, Nat.reduceAdd]; done) | (simp only [LB]; omega)) only [EB, ↓reduceIte, WB, Nat.reduceSub, Nat.reduceAdd, Int.reduceEq, Int.reduceNe, Int.reduceLT, Int.reduceLE, Int.reduceAdd, Int.reduceSub, Int.reduceMul, Int.reduceNeg, Int.reduceToNat, Nat.reduceEqDiff, Nat.reduceLT, Nat.reduceLeDiff, Nat.reduceMul, List.replicate, reduceCtorEq, TB, NB, show ¬ (n : Int) < 0 by omega, hq, show ¬ (s.length : Int) < n by omega, show (0 : Int) ≤ (n : Int) by omega, show (n : Int) ≤ s.length by omega]
    have hso : soilW a.next [] q = [q] := by unfold soilW; rw [if_pos hqn]; rfl
    have hsa : soilAll a.dirty a.base [q] = a.dirty := by simp [soilAll]; omega
    rw [write_soil, hso, leave_soiled, hsa]
    have := hK (putAt q (.cells [.string (mkStr (s.drop n))] true) a.heap) (by rw [bytR, if_neg h, look_wput_self, hq]; rfl) fun j hj => look_wput_ne hj
    rw [bytR, if_neg h, if_neg h] at this
    exact this
theorem size24r (v : Value) (l : List Bkt) (hl : l.length ≤ 1000000) (hn : ∀ b ∈ l, b.name.length ≤ 140737488355328) (hs : sizeB l ≤ 4611686018427387904) (a : AW) (m : Nat) (hm : m ≤ a.next) (hv : RV encB 3 a.heap m v l) (K : Value → AW → Prop) :
    WCall Try.prog GV 24 [v] a K = K (.int .i64 (sizeB l)) a := by
  refine call_eq ?_ K
  rw [call_env Try.func24 rfl Try.ntmps24 rfl rfl (by simp)]
  obtain ⟨pp, c, rfl⟩ := hv.len
  simp -dsimp (maxSteps := 4000000) (disch := first | omega | assumption | (simp only [FB, Nat.reduceAdd]; done) | (simp only [LB]; omega)) only [EB, ↓reduceIte, WB, Nat.reduceSub, Nat.reduceAdd, Int.reduceEq, Int.reduceNe, Int.reduceLT, Int.reduceLE, Int.reduceAdd, Int.reduceSub, Int.reduceMul, Int.reduceNeg, Int.reduceToNat, Nat.reduceEqDiff, Nat.reduceLT, Nat.reduceLeDiff, Nat.reduceMul, List.replicate, reduceCtorEq, TB, NB, ]
  refine loop_inv (fun r t w => ∃ i, ∃ e : Nat → Value, r = l.length - i ∧ i ≤ l.length ∧ w = ⟨a.next, a.heap, a.next, []⟩ ∧ t = TT 19 e ∧ e 0 = .slice pp l.length c ∧ e 3 = .int .i64 (sizeB (l.take i)) ∧ e 4 = .int .i64 i) ⟨0, _, rfl, by omega, rfl, rfl, rfl, rfl, rfl⟩ ?_
  rintro r t w ⟨i, e, rfl, hi, rfl, rfl, t0, t3, t4⟩
  by_cases hlt : i < l.length
  · obtain ⟨b, o, sp, rw0, cc, rfl, hlk, hbn, hle, hat, -⟩ := hv.at encB_len hlt
    have hst := sizeB_take l i hlt
    have hsl := sizeB_upto l (i + 1)
    have h50 := fun a K => one50 l[i] (hn _ (List.getElem_mem hlt)) a K
    simp -dsimp (maxSteps := 4000000) (disch := first | omega | assumption | (simp only [FB, Nat.reduceAdd]; done) | (simp only [LB]; omega)) only [EB, ↓reduceIte, WB, Nat.reduceSub, Nat.reduceAdd, Int.reduceEq, Int.reduceNe, Int.reduceLT, Int.reduceLE, Int.reduceAdd, Int.reduceSub, Int.reduceMul, Int.reduceNeg, Int.reduceToNat, Nat.reduceEqDiff, Nat.reduceLT, Nat.reduceLeDiff, Nat.reduceMul, List.replicate, reduceCtorEq, TB, NB, t0, t3, t4, show (i : Int) < l.length by omega, show (0 : Int) ≤ (i : Int) by omega, hlk, hat, h50, wrap64]
    refine ⟨trivial, l.length - (i + 1), by omega, i + 1, _, rfl, by omega, (by first | trivial | rfl | omega), rfl, ?_⟩
    simp only [ups_at, ↓reduceIte, Nat.reduceEqDiff]
    refine ⟨t0, ?_, (by first | trivial | rfl | omega)⟩
    rw [hst]; congr 1
  · obtain rfl : i = l.length := by omega
    rw [List.take_length] at t3
    simp -dsimp (maxSteps := 4000000) (disch := first | omega | assumption | (simp only [FB, Nat.reduceAdd]; done) | (simp only [LB]; omega)) only [EB, ↓reduceIte, WB, Nat.reduceSub, Nat.reduceAdd, Int.reduceEq, Int.reduceNe, Int.reduceLT, Int.reduceLE, Int.reduceAdd, Int.reduceSub, Int.reduceMul, Int.reduceNeg, Int.reduceToNat, Nat.reduceEqDiff, Nat.reduceLT, Nat.reduceLeDiff, Nat.reduceMul, List.replicate, reduceCtorEq, TB, NB, t0, t3, t4, show ¬ (l.length : Int) < l.length by omega]
    exact ⟨trivial, trivial⟩
theorem find22 (v : Value) (l : List Bkt) (hl : l.length ≤ 1000000) (s : List UInt8) (a : AW) (m : Nat) (hm : m ≤ a.next) (hv : RV encB 3 a.heap m v l) (K : Value → AW → Prop) :
    WCall Try.prog GV 22 [v, .string (mkStr s)] a K = K (.tuple #[.int .i64 (findB l s).1, .bool (findB l s).2]) a := by
  refine call_eq ?_ K
  rw [call_env Try.func22 rfl Try.ntmps22 rfl rfl (by simp)]
  obtain ⟨pp, c, rfl⟩ := hv.len
  simp -dsimp (maxSteps := 4000000) (disch := first | omega | assumption | (simp only [FB, Nat.reduceAdd]; done) | (simp only [LB]; omega)) only [EB, ↓reduceIte, WB, Nat.reduceSub, Nat.reduceAdd, Int.reduceEq, Int.reduceNe, Int.reduceLT, Int.reduceLE, Int.reduceAdd, Int.reduceSub, Int.reduceMul, Int.reduceNeg, Int.reduceToNat, Nat.reduceEqDiff, Nat.reduceLT, Nat.reduceLeDiff, Nat.reduceMul, List.replicate, reduceCtorEq, TB, NB, ]
  refine loop_inv (fun r t w => ∃ i, ∃ e : Nat → Value, r = l.length - i ∧ i ≤ l.length ∧ w = ⟨a.next, a.heap, a.next, []⟩ ∧ t = TT 38 e ∧ (∀ j (hj : j < l.length), j < i → nameIs s l[j] = false) ∧ e 0 = .slice pp l.length c ∧ e 1 = .string (mkStr s) ∧ e 6 = .int .i64 i) ⟨0, _, rfl, by omega, rfl, rfl, fun j _ h => absurd h (by omega), rfl, rfl, rfl⟩ ?_
  rintro r t w ⟨i, e, rfl, hi, rfl, rfl, hb, t0, t1, t6⟩
  by_cases hlt : i < l.length
  · obtain ⟨b, o, sp, rw0, cc, rfl, hlk, hbn, hle, -, hk⟩ := hv.at encB_len hlt
    have hn0 : cc[o + i * 3]? = some (.string (mkStr l[i].name)) := by have := hk 0 (by omega); simpa [encB] using this
    by_cases he : l[i].name = s
    · simp -dsimp (maxSteps := 4000000) (disch := first | omega | assumption | (simp only [FB, Nat.reduceAdd]; done) | (simp only [LB]; omega)) only [EB, ↓reduceIte, WB, Nat.reduceSub, Nat.reduceAdd, Int.reduceEq, Int.reduceNe, Int.reduceLT, Int.reduceLE, Int.reduceAdd, Int.reduceSub, Int.reduceMul, Int.reduceNeg, Int.reduceToNat, Nat.reduceEqDiff, Nat.reduceLT, Nat.reduceLeDiff, Nat.reduceMul, List.replicate, reduceCtorEq, TB, NB, t0, t1, t6, show (i : Int) < l.length by omega, show (0 : Int) ≤ (i : Int) by omega, hlk, hn0, he, decide_true]
      have hf : fidx (nameIs s) l = i := fidx_of (by omega) hb fun _ => by simp [nameIs, he]
      have hfb : findB l s = (i, true) := by unfold findB; rw [hf, if_pos hlt]
      rw [hfb]
      exact ⟨rfl, trivial⟩
    · simp -dsimp (maxSteps := 4000000) (disch := first | omega | assumption | (simp only [FB, Nat.reduceAdd]; done) | (simp only [LB]; omega)) only [EB, ↓reduceIte, WB, Nat.reduceSub, Nat.reduceAdd, Int.reduceEq, Int.reduceNe, Int.reduceLT, Int.reduceLE, Int.reduceAdd, Int.reduceSub, Int.reduceMul, Int.reduceNeg, Int.reduceToNat, Nat.reduceEqDiff, Nat.reduceLT, Nat.reduceLeDiff, Nat.reduceMul, List.replicate, reduceCtorEq, TB, NB, t0, t1, t6, show (i : Int) < l.length by omega, show (0 : Int) ≤ (i : Int) by omega, hlk, hn0, he, decide_false, wrap64]
      refine ⟨trivial, l.length - (i + 1), by omega, i + 1, _, rfl, by omega, (by first | trivial | rfl | omega), rfl, fun j hj hji => ?_, ?_⟩
      · rcases Nat.lt_or_ge j i with h | h
        · exact hb j hj h
        · obtain rfl : j = i := by omega
          simp [nameIs, he]
      · simp only [ups_at, ↓reduceIte, Nat.reduceEqDiff]; exact ⟨t0, t1, (by first | trivial | rfl | omega)⟩
  · obtain rfl : i = l.length := by omega
    have hno : ¬ fidx (nameIs s) l < l.length := by
      intro h
      have h1 := fidx_at h
      rw [hb _ h h] at h1; cases h1
    have hfb : findB l s = (fidx (nameGe s) l, false) := by unfold findB; rw [if_neg hno]
    rw [hfb]
    simp -dsimp (maxSteps := 4000000) (disch := first | omega | assumption | (simp only [FB, Nat.reduceAdd]; done) | (simp only [LB]; omega)) only [EB, ↓reduceIte, WB, Nat.reduceSub, Nat.reduceAdd, Int.reduceEq, Int.reduceNe, Int.reduceLT, Int.reduceLE, Int.reduceAdd, Int.reduceSub, Int.reduceMul, Int.reduceNeg, Int.reduceToNat, Nat.reduceEqDiff, Nat.reduceLT, Nat.reduceLeDiff, Nat.reduceMul, List.replicate, reduceCtorEq, TB, NB, t0, t1, t6, show ¬ (l.length : Int) < l.length by omega]
    refine loop_inv (fun r t w => ∃ i, ∃ e : Nat → Value, r = l.length - i ∧ i ≤ l.length ∧ w = ⟨a.next, a.heap, a.next, []⟩ ∧ t = TT 38 e ∧ (∀ j (hj : j < l.length), j < i → nameGe s l[j] = false) ∧ e 0 = .slice pp l.length c ∧ e 1 = .string (mkStr s) ∧ e 7 = .int .i64 i) ⟨0, _, rfl, by omega, rfl, rfl, fun j _ h => absurd h (by omega), t0, t1, rfl⟩ ?_
    rintro r t w ⟨i, e, rfl, hi, rfl, rfl, hb, t0, t1, t7⟩
    by_cases hlt : i < l.length
    · obtain ⟨b, o, sp, rw0, cc, rfl, hlk, hbn, hle, -, hk⟩ := hv.at encB_len hlt
      have hn0 : cc[o + i * 3]? = some (.string (mkStr l[i].name)) := by have := hk 0 (by omega); simpa [encB] using this
      by_cases he : Op.bytesLess l[i].name s = true
      · simp -dsimp (maxSteps := 4000000) (disch := first | omega | assumption | (simp only [FB, Nat.reduceAdd]; done) | (simp only [LB]; omega)) only [EB, ↓reduceIte, WB, Nat.reduceSub, Nat.reduceAdd, Int.reduceEq, Int.reduceNe, Int.reduceLT, Int.reduceLE, Int.reduceAdd, Int.reduceSub, Int.reduceMul, Int.reduceNeg, Int.reduceToNat, Nat.reduceEqDiff, Nat.reduceLT, Nat.reduceLeDiff, Nat.reduceMul, List.replicate, reduceCtorEq, TB, NB, t0, t1, t7, show (i : Int) < l.length by omega, show (0 : Int) ≤ (i : Int) by omega, hlk, hn0, he, wrap64]
        refine ⟨trivial, l.length - (i + 1), by omega, i + 1, _, rfl, by omega, (by first | trivial | rfl | omega), rfl, fun j hj hji => ?_, ?_⟩
        · rcases Nat.lt_or_ge j i with h | h
          · exact hb j hj h
          · obtain rfl : j = i := by omega
            simp [nameGe, he]
        · simp only [ups_at, ↓reduceIte, Nat.reduceEqDiff]; exact ⟨t0, t1, (by first | trivial | rfl | omega)⟩
      · have he' : Op.bytesLess l[i].name s = false := by simpa using he
        simp -dsimp (maxSteps := 4000000) (disch := first | omega | assumption | (simp only [FB, Nat.reduceAdd]; done) | (simp only [LB]; omega)) only [EB, ↓reduceIte, WB, Nat.reduceSub, Nat.reduceAdd, Int.reduceEq, Int.reduceNe, Int.reduceLT, Int.reduceLE, Int.reduceAdd, Int.reduceSub, Int.reduceMul, Int.reduceNeg, Int.reduceToNat, Nat.reduceEqDiff, Nat.reduceLT, Nat.reduceLeDiff, Nat.reduceMul, List.replicate, reduceCtorEq, TB, NB, t0, t1, t7, show (i : Int) < l.length by omega, show (0 : Int) ≤ (i : Int) by omega, hlk, hn0, he']
        have hf : fidx (nameGe s) l = i := fidx_of (by omega) hb fun _ => by simp [nameGe, he']
        rw [hf]
        exact ⟨rfl, trivial⟩
    · obtain rfl : i = l.length := by omega
      simp -dsimp (maxSteps := 4000000) (disch := first | omega | assumption | (simp only [FB, Nat.reduceAdd]; done) | (simp only [LB]; omega)) only [EB, ↓reduceIte, WB, Nat.reduceSub, Nat.reduceAdd, Int.reduceEq, Int.reduceNe, Int.reduceLT, Int.reduceLE, Int.reduceAdd, Int.reduceSub, Int.reduceMul, Int.reduceNeg, Int.reduceToNat, Nat.reduceEqDiff, Nat.reduceLT, Nat.reduceLeDiff, Nat.reduceMul, List.replicate, reduceCtorEq, TB, NB, t0, t1, t7, show ¬ (l.length : Int) < l.length by omega]
      have hf : fidx (nameGe s) l = l.length := fidx_of (Nat.le_refl _) (fun j hj h => hb j hj h) fun h => absurd h (by omega)
      rw [hf]
      exact ⟨rfl, trivial⟩
theorem set26 (v : Value) (l : List Bkt) (hl : l.length ≤ 900000) (b : Bkt) (a : AW) (m : Nat) (hm : m ≤ a.next) (hv : RV encB 3 a.heap m v l) (K : Value → AW → Prop)
    (hK : ∀ v' n' h', a.next ≤ n' → n' ≤ a.next + 1 → OwnS encB 3 h' n' a.next v' (setB l b) → (∀ j, j < a.next → look j h' = look j a.heap) → K v' ⟨n', h', a.base, a.dirty⟩) :
    WCall Try.prog GV 26 [v, .agg (encB b).toArray] a K := by
  rw [call_env Try.func26 rfl Try.ntmps26 rfl rfl (by simp), encB]
  obtain ⟨H1, hH1⟩ : ∃ H1, H1 = (a.next, Blk.cells [.string (mkStr b.name), .int .u32 b.root, .int .i64 b.keys] true) :: a.heap := ⟨_, rfl⟩
  have hb0 : look a.next H1 = some (.cells [.string (mkStr b.name), .int .u32 b.root, .int .i64 b.keys] true) := by rw [hH1]; exact look_self
  have hv1 : RV encB 3 H1 m v l := hv.keep (Nat.le_refl _) fun j hj => by rw [hH1]; exact look_miss (by omega)
  have hfi := fun K => find22 v l (by omega) b.name ⟨a.next + 1, H1, a.next, []⟩ m (by simp only; omega) hv1 K
  have hile : (findB l b.name).1 ≤ l.length := by unfold findB; split <;> simp only <;> first | omega | exact fidx_le _
  have hset : setB l b = l.take (findB l b.name).1 ++ b :: l.drop (if (findB l b.name).2 = true then (findB l b.name).1 + 1 else (findB l b.name).1) := by
    unfold setB
    by_cases hf : (findB l b.name).2 = true
    · have hi : (findB l b.name).1 < l.length := by
        unfold findB at hf ⊢
        split at hf
        · rename_i h; rw [if_pos h]; exact h
        · cases hf
      rw [if_pos hf, if_pos hf, List.set_eq_take_append_cons_drop, if_pos hi]
    · rw [if_neg hf, if_neg hf]; rfl
  obtain ⟨i, hi⟩ : ∃ i, i = (findB l b.name).1 := ⟨_, rfl⟩
  obtain ⟨f, hf⟩ : ∃ f, f = (findB l b.name).2 := ⟨_, rfl⟩
  rw [← hi, ← hf] at hset
  rw [← hi] at hile
  simp only [← hi, ← hf] at hfi
  obtain ⟨v2, s2, r2, -⟩ := hv1.hi (E := Try.prog) encB_len und24 size36 (k := .i64) (i := (i : Int)) (by omega) (by omega)
  rw [Int.toNat_natCast] at r2
  obtain ⟨v3, s3, r3, -⟩ := hv1.lo (E := Try.prog) encB_len und24 size36 (k := .i64) (i := ((if f = true then i + 1 else i : Nat) : Int)) (by omega) (by
    by_cases h : f = true
    · have : i < l.length := by
        rw [hf] at h
        rw [hi]
        unfold findB at h ⊢
        split at h
        · rename_i h0; rw [if_pos h0]; exact h0
        · cases h
      simp only [h, if_true]; omega
    · simp only [h]; simp; omega)
  rw [Int.toNat_natCast] at r3
  simp -dsimp (maxSteps := 4000000) (disch := first | omega | assumption | (simp only [FB, Nat.reduceAdd]; done) | (simp only [LB]; omega)) only [EB, ↓reduceIte, WB, Nat.reduceSub, Nat.reduceAdd, Int.reduceEq, Int.reduceNe, Int.reduceLT, Int.reduceLE, Int.reduceAdd, Int.reduceSub, Int.reduceMul, Int.reduceNeg, Int.reduceToNat, Nat.reduceEqDiff, Nat.reduceLT, Nat.reduceLeDiff, Nat.reduceMul, List.replicate, reduceCtorEq, TB, NB, ← hH1, hb0, hfi, s2]
  have g2 : RV encB 3 ((a.next + 1, Blk.cells [] true) :: H1) m v2 (l.take i) := r2.keep (Nat.le_refl _) fun j hj => look_miss (by omega)
  obtain ⟨w1, q1, n1, h1, e1, o1, f1, f2, f3, f4, f5⟩ := append_mine (E := Try.prog) (t0 := 24) (t1 := 24) (bs := a.next) (d := []) app24 encB_len encB_one (OwnS.made (n := a.next + 2) (h := (a.next + 1, Blk.cells [] true) :: H1) look_self (by omega)) (by omega) (by omega) g2 (by simp only [List.length_nil, List.length_take]; omega)
  rw [e1]
  rw [List.nil_append] at o1
  have hb1 : look a.next h1 = some (.cells [.string (mkStr b.name), .int .u32 b.root, .int .i64 b.keys] true) := by rw [f5 _ (by omega) (by omega), look_miss (by omega)]; exact hb0
  simp -dsimp (maxSteps := 4000000) (disch := first | omega | assumption | (simp only [FB, Nat.reduceAdd]; done) | (simp only [LB]; omega)) only [EB, ↓reduceIte, WB, Nat.reduceSub, Nat.reduceAdd, Int.reduceEq, Int.reduceNe, Int.reduceLT, Int.reduceLE, Int.reduceAdd, Int.reduceSub, Int.reduceMul, Int.reduceNeg, Int.reduceToNat, Nat.reduceEqDiff, Nat.reduceLT, Nat.reduceLeDiff, Nat.reduceMul, List.replicate, reduceCtorEq, TB, NB, hb1]
  have o1' : OwnS encB 3 ((n1, Blk.cells [.string (mkStr b.name), .int .u32 b.root, .int .i64 b.keys] true) :: h1) (n1 + 1) q1 w1 (l.take i) := o1.keep (by omega) fun hq => look_miss (by omega)
  obtain ⟨w2, q2, n2, h2, e2, o2, k1, k2, k3, k4, k5⟩ := append_mine (E := Try.prog) (t0 := 24) (t1 := 24) (bs := a.next) (d := []) app24 encB_len encB_one o1' (by omega) (by omega) (RV.one (n := n1 + 1) (x := b) encB_len look_self (by omega)) (by simp only [List.length_take, List.length_cons, List.length_nil]; omega)
  rw [e2]
  have hn1 : ∀ (h : f = true), IntKind.i64.wrap ((i : Int) + 1) = ((i + 1 : Nat) : Int) := fun _ => by rw [wrap64 (by omega) (by omega)]; omega
  have g3 : RV encB 3 h2 n2 v3 (l.drop (if f = true then i + 1 else i)) := r3.keep (by omega) fun j hj => by rw [k5 j (by omega) (by omega), look_miss (show j ≠ n1 by omega), f5 j (by omega) (by omega), look_miss (show j ≠ a.next + 1 by omega)]
  obtain ⟨w3, q3, n3, h3, e3, o3, p1, p2, p3, p4, p5⟩ := append_mine (E := Try.prog) (t0 := 24) (t1 := 24) (bs := a.next) (d := []) app24 encB_len encB_one o2 (by omega) (by omega) g3 (by simp only [List.length_append, List.length_take, List.length_cons, List.length_nil, List.length_drop]; split <;> omega)
  have hfin : K (oneOf (leaveA a [w3] ⟨n3, h3, a.next, []⟩).1) (leaveA a [w3] ⟨n3, h3, a.next, []⟩).2 := by
    refine leave_own encB_flat (xs := setB l b) (by rw [hset]; simpa [List.append_assoc] using o3) (by omega) fun v' n' h' z1 z2 z3 z4 _ => hK v' n' h' z1 z2 z3 z4
  by_cases hft : f = true
  · simp only [hft, if_true] at s3
    simp -dsimp (maxSteps := 4000000) (disch := first | omega | assumption | (simp only [FB, Nat.reduceAdd]; done) | (simp only [LB]; omega)) only [EB, ↓reduceIte, WB, Nat.reduceSub, Nat.reduceAdd, Int.reduceEq, Int.reduceNe, Int.reduceLT, Int.reduceLE, Int.reduceAdd, Int.reduceSub, Int.reduceMul, Int.reduceNeg, Int.reduceToNat, Nat.reduceEqDiff, Nat.reduceLT, Nat.reduceLeDiff, Nat.reduceMul, List.replicate, reduceCtorEq, TB, NB, hft, hn1 hft, s3, e3]
    exact hfin
  · have hff : f = false := by simpa using hft
    simp only [hff, Bool.false_eq_true, if_false] at s3
    simp -dsimp (maxSteps := 4000000) (disch := first | omega | assumption | (simp only [FB, Nat.reduceAdd]; done) | (simp only [LB]; omega)) only [EB, ↓reduceIte, WB, Nat.reduceSub, Nat.reduceAdd, Int.reduceEq, Int.reduceNe, Int.reduceLT, Int.reduceLE, Int.reduceAdd, Int.reduceSub, Int.reduceMul, Int.reduceNeg, Int.reduceToNat, Nat.reduceEqDiff, Nat.reduceLT, Nat.reduceLeDiff, Nat.reduceMul, List.replicate, reduceCtorEq, TB, NB, hff, s3, e3]
    exact hfin
theorem del27 (v : Value) (l : List Bkt) (hl : l.length ≤ 900000) (s : List UInt8) (a : AW) (m : Nat) (hm : m ≤ a.next) (hv : RV encB 3 a.heap m v l) (K : Value → AW → Prop)
    (hK : ∀ v' n' h', a.next ≤ n' → n' ≤ a.next + 1 → OwnS encB 3 h' n' a.next v' (delB l s) → (∀ j, j < a.next → look j h' = look j a.heap) → K v' ⟨n', h', a.base, a.dirty⟩) :
    WCall Try.prog GV 27 [v, .string (mkStr s)] a K := by
  rw [call_env Try.func27 rfl Try.ntmps27 rfl rfl (by simp)]
  by_cases h1 : fidx (nameIs s) l < l.length
  · have hfb : findB l s = (fidx (nameIs s) l, true) := by unfold findB; rw [if_pos h1]
    have hfi := fun K => find22 v l (by omega) s ⟨a.next, a.heap, a.next, []⟩ m hm hv K
    simp only [hfb] at hfi
    obtain ⟨i, hi⟩ : ∃ i, i = fidx (nameIs s) l := ⟨_, rfl⟩
    rw [← hi] at h1
    simp only [← hi] at hfi
    have hdl : delB l s = l.take i ++ l.drop (i + 1) := by unfold delB; rw [← hi, List.eraseIdx_eq_take_drop_succ]
    obtain ⟨v2, s2, r2, -⟩ := hv.hi (E := Try.prog) encB_len und24 size36 (k := .i64) (i := (i : Int)) (by omega) (by omega)
    rw [Int.toNat_natCast] at r2
    obtain ⟨v3, s3, r3, -⟩ := hv.lo (E := Try.prog) encB_len und24 size36 (k := .i64) (i := (i : Int) + 1) (by omega) (by omega)
    rw [show ((i : Int) + 1).toNat = i + 1 by omega] at r3
    simp -dsimp (maxSteps := 4000000) (disch := first | omega | assumption | (simp only [FB, Nat.reduceAdd]; done) | (simp only [LB]; omega)) only [EB, ↓reduceIte, WB, Nat.reduceSub, Nat.reduceAdd, Int.reduceEq, Int.reduceNe, Int.reduceLT, Int.reduceLE, Int.reduceAdd, Int.reduceSub, Int.reduceMul, Int.reduceNeg, Int.reduceToNat, Nat.reduceEqDiff, Nat.reduceLT, Nat.reduceLeDiff, Nat.reduceMul, List.replicate, reduceCtorEq, TB, NB, hfi]
    refine code_draw [(0, 1), (0, 2), (0, 3), (0, 5), (0, 6), (0, 7), (0, 8), (1, 2), (1, 5), (1, 6), (1, 7), (1, 8), (2, 5), (2, 6), (2, 7), (2, 8), (3, 5), (3, 6), (3, 7), (3, 8), (4, 5), (4, 6), (4, 7), (4, 8), (5, 6), (5, 7)] (by decide +kernel) (by decide +kernel) ?_
    simp -dsimp (maxSteps := 4000000) (disch := first | omega | assumption | (simp only [FB, Nat.reduceAdd]; done) | (simp only [LB]; omega)) only [EB, ↓reduceIte, WB, Nat.reduceSub, Nat.reduceAdd, Int.reduceEq, Int.reduceNe, Int.reduceLT, Int.reduceLE, Int.reduceAdd, Int.reduceSub, Int.reduceMul, Int.reduceNeg, Int.reduceToNat, Nat.reduceEqDiff, Nat.reduceLT, Nat.reduceLeDiff, Nat.reduceMul, List.replicate, reduceCtorEq, RB, Nat.reduceEqDiff, TB, NB, s2]
    have g2 : RV encB 3 ((a.next + 1, Blk.cells [] true) :: a.heap) m v2 (l.take i) := r2.keep (Nat.le_refl _) fun j hj => look_miss (show j ≠ a.next + 1 by omega)
    obtain ⟨w1, q1, n1, h1', d1, e1, o1, f1, f2, f3, f4, f5⟩ := append_own (E := Try.prog) (t0 := 24) (t1 := 24) (bs := a.next + 2) (d := []) app24 encB_len encB_one (OwnS.made (n := a.next + 2) (h := (a.next + 1, Blk.cells [] true) :: a.heap) look_self (by omega)) g2 (by simp only [List.length_nil, List.length_take]; omega)
    rw [List.nil_append] at o1
    have hd1 : soilAll [] a.next d1 = [] := soil_back f5 (by omega)
    have g3 : RV encB 3 h1' n1 v3 (l.drop (i + 1)) := r3.keep (by omega) fun j hj => by rw [f4 j (by omega) (by omega), look_miss (show j ≠ a.next + 1 by omega)]
    obtain ⟨w2, q2, n2, h2, d2, e2, o2, k1, k2, k3, k4, k5⟩ := append_own (E := Try.prog) (t0 := 24) (t1 := 24) (bs := n1) (d := []) app24 encB_len encB_one o1 g3 (by simp only [List.length_take, List.length_drop]; omega)
    have hq1 : a.next ≤ q1 := by rcases f3 with h | h <;> omega
    have hd2 : soilAll [] a.next d2 = [] := soil_back k5 hq1
    have hq2 : a.next ≤ q2 := by rcases k3 with h | h <;> omega
    simp -dsimp (maxSteps := 4000000) (disch := first | omega | assumption | (simp only [FB, Nat.reduceAdd]; done) | (simp only [LB]; omega)) only [EB, ↓reduceIte, WB, Nat.reduceSub, Nat.reduceAdd, Int.reduceEq, Int.reduceNe, Int.reduceLT, Int.reduceLE, Int.reduceAdd, Int.reduceSub, Int.reduceMul, Int.reduceNeg, Int.reduceToNat, Nat.reduceEqDiff, Nat.reduceLT, Nat.reduceLeDiff, Nat.reduceMul, List.replicate, reduceCtorEq, RB, Nat.reduceEqDiff, TB, NB, e1, hd1, wrap64, s3, e2, hd2]
    exact leave_own encB_flat (xs := delB l s) (by rw [hdl]; exact o2) hq2 fun v' n' h' z1 z2 z3 z4 _ => hK v' n' h' z1 z2 z3 z4
  · have hfb : findB l s = (fidx (nameGe s) l, false) := by unfold findB; rw [if_neg h1]
    have hfi := fun K => find22 v l (by omega) s ⟨a.next, a.heap, a.next, []⟩ m hm hv K
    simp only [hfb] at hfi
    have hv1 : RV encB 3 ((a.next, Blk.cells [] true) :: a.heap) m v l := hv.keep (Nat.le_refl _) fun j hj => look_miss (by omega)
    simp -dsimp (maxSteps := 4000000) (disch := first | omega | assumption | (simp only [FB, Nat.reduceAdd]; done) | (simp only [LB]; omega)) only [EB, ↓reduceIte, WB, Nat.reduceSub, Nat.reduceAdd, Int.reduceEq, Int.reduceNe, Int.reduceLT, Int.reduceLE, Int.reduceAdd, Int.reduceSub, Int.reduceMul, Int.reduceNeg, Int.reduceToNat, Nat.reduceEqDiff, Nat.reduceLT, Nat.reduceLeDiff, Nat.reduceMul, List.replicate, reduceCtorEq, TB, NB, hfi]
    obtain ⟨v2, q2, n2, h2, e2, o2, f1, f2, f3, f4, f5⟩ := append_mine (E := Try.prog) (t0 := 24) (t1 := 24) (bs := a.next) (d := []) app24 encB_len encB_one (OwnS.made (n := a.next + 1) (h := (a.next, Blk.cells [] true) :: a.heap) look_self (Nat.lt_succ_self _)) (Nat.le_refl _) (by omega) hv1 (by simp only [List.length_nil]; omega)
    rw [e2]
    simp -dsimp (maxSteps := 4000000) (disch := first | omega | assumption | (simp only [FB, Nat.reduceAdd]; done) | (simp only [LB]; omega)) only [EB, ↓reduceIte, WB, Nat.reduceSub, Nat.reduceAdd, Int.reduceEq, Int.reduceNe, Int.reduceLT, Int.reduceLE, Int.reduceAdd, Int.reduceSub, Int.reduceMul, Int.reduceNeg, Int.reduceToNat, Nat.reduceEqDiff, Nat.reduceLT, Nat.reduceLeDiff, Nat.reduceMul, List.replicate, reduceCtorEq, TB, NB, ]
    have hd : delB l s = l := by unfold delB; exact List.eraseIdx_of_length_le (by omega)
    rw [hd] at hK
    exact leave_own encB_flat o2 f3 fun v' n' h' x1 x2 x3 x4 _ => hK v' n' h' x1 x2 x3 fun j hj => x4 j hj
end Go.Proofs.YtpcaoohacgkeiaaAM
