/- Chapter 3: the byte that a page should have. -/
import Derived.Test.YtgdmgolmeeigdaaD11
namespace Go.Proofs.YtgdmgolmeeigdaaAM
open Go Go.RowKit
set_option linter.unusedVariables false
set_option linter.unusedSimpArgs false
set_option maxRecDepth 10000
set_option maxHeartbeats 4000000

theorem letters : ∀ i, i < 20 → List.drop i (97 :: List.take i [98, 99, 100, 101, 102, 103, 104, 105, 106, 107, 108, 109, 110, 111, 112, 113, 114, 115, 116, 117, 118, 119, 120, 121, 122]) = [letter i] := by decide
theorem letter_nat (i : Nat) (h : i < 20) : (letter i).toNat = 97 + i := by unfold letter; rw [UInt8.toNat_ofNat']; omega
theorem loopK {p pu : Option Addr} {cp cu : Nat} (xs ks : List Int) (hkl : ks.length ≤ 100) {h : List (Nat × Blk)} {n bs : Nat} {d ds : List Nat} (i nn : Nat) (x : Int) (hxi : xs[i]? = some x) (hxl : xs.length ≤ 20) (hxb : -9223372036854775808 ≤ x) (s : UInt8)
    (hv : ListV encI h n (.slice p xs.length cp) xs) (hu : ListV encI h n (.slice pu ks.length cu) ks) (e : Nat → Value) (e1 : e 1 = .slice p xs.length cp) (e2 : e 2 = .slice pu ks.length cu) (e10 : e 10 = .int .i64 nn) (e13 : e 13 = .int .u8 s.toNat) (e14 : e 14 = .int .i64 i) (e15 : e 15 = .int .i64 0)
    (Q : ExitA → List Value → List Nat → AW → Prop) (hQ : ∀ e', (∀ j, j ≤ 14 → j ≠ 13 → e' j = e j) → e' 13 = .int .u8 (if (i : Int) ∈ ks ∧ pick x 12 = nn then letter i else s).toNat → Q (.exit 6) (TT 117 e') ds ⟨n, h, bs, d⟩) :
    WCode Try.prog GV 3 none (loopN Try.f3 3) (TT 117 e) ds ⟨n, h, bs, d⟩ Q := by
  refine loop_at rfl ?_
  obtain ⟨hil, -⟩ := List.getElem?_eq_some_iff.1 hxi
  refine loop_inv (fun k t w => ∃ kk : Nat, ∃ e', k = ks.length - kk ∧ kk ≤ ks.length ∧ w = ⟨n, h, bs, d⟩ ∧ t = TT 117 e' ∧ (∀ j, j ≤ 14 → j ≠ 13 → e' j = e j) ∧ e' 13 = .int .u8 (if (i : Int) ∈ ks.take kk ∧ pick x 12 = nn then letter i else s).toNat ∧ e' 15 = .int .i64 kk) ⟨0, e, rfl, by omega, rfl, rfl, fun _ _ _ => rfl, by simpa using e13, e15⟩ ?_
  rintro k t w ⟨kk, e', hk, hi', rfl, rfl, ha, f13, f15⟩
  have f1 := (ha 1 (by omega) (by omega)).trans e1
  have f2 := (ha 2 (by omega) (by omega)).trans e2
  have f10 := (ha 10 (by omega) (by omega)).trans e10
  have f14 := (ha 14 (by omega) (by omega)).trans e14
  by_cases hltk : kk < ks.length
  · obtain ⟨b, sp, cap, rw, q1, hqb, hqn⟩ := hv.at hil
    obtain ⟨b2, sp2, cap2, rw2, q2, hqb2, hqn2⟩ := hu.at hltk
    rw [flat_encI] at hqb hqb2
    have hki : ks[kk]? = some ks[kk] := List.getElem?_eq_getElem hltk
    have htk : ks.take (kk + 1) = ks.take kk ++ [ks[kk]] := by rw [List.take_add_one, hki]; rfl
    obtain ⟨y, hy⟩ : ∃ y, y = ks[kk] := ⟨_, rfl⟩
    rw [← hy] at hki htk
    by_cases hye : y = i
    · by_cases hpn : pick x 12 = nn
      · have hlet : 97 + (i : Int) = ((letter i).toNat : Int) := by
          have := letter_nat i (by omega); omega
        have hlb := (letter i).toNat_lt
        simp -dsimp (maxSteps := 4000000) (disch := first | omega | assumption | (simp only [FB, Nat.reduceAdd]; done) | (simp only [LB]; omega)) only [EB, ↓reduceIte, WB, Nat.reduceSub, Nat.reduceAdd, Int.reduceEq, Int.reduceNe, Int.reduceLT, Int.reduceLE, Int.reduceAdd, Int.reduceSub, Int.reduceMul, Int.reduceNeg, Int.reduceToNat, Nat.reduceEqDiff, Nat.reduceLT, Nat.reduceLeDiff, Nat.reduceMul, List.replicate, reduceCtorEq, op_len und9 rfl, f1, f2, f10, f13, f14, f15, q1, q2, show ((kk : Int) < ks.length) by omega, op_len und22 rfl, indexAddr_slice und22 size3, load_one agg3, hqb, hqb2, List.getElem?_map, hki, hxi, hye, pick10, hpn, wrap64, op_conv_int und3 und5, conv_int und3 und5, hlet, wrapu8]
        refine ⟨trivial, ks.length - (kk + 1), by omega, kk + 1, _, rfl, by omega, trivial, rfl, fun j h1 h2 => ?_, ?_, ?_⟩
        · simp (disch := omega) only [ups_ne]; exact ha j h1 h2
        · simp only [ups_at, ↓reduceIte, Nat.reduceEqDiff]; rw [if_pos (show (i : Int) ∈ List.take (kk + 1) ks ∧ True from ⟨by rw [htk]; simp [hye], trivial⟩)]
        · simp only [ups_at, ↓reduceIte, Nat.reduceEqDiff]; rfl
      · simp -dsimp (maxSteps := 4000000) (disch := first | omega | assumption | (simp only [FB, Nat.reduceAdd]; done) | (simp only [LB]; omega)) only [EB, ↓reduceIte, WB, Nat.reduceSub, Nat.reduceAdd, Int.reduceEq, Int.reduceNe, Int.reduceLT, Int.reduceLE, Int.reduceAdd, Int.reduceSub, Int.reduceMul, Int.reduceNeg, Int.reduceToNat, Nat.reduceEqDiff, Nat.reduceLT, Nat.reduceLeDiff, Nat.reduceMul, List.replicate, reduceCtorEq, op_len und9 rfl, f1, f2, f10, f13, f14, f15, q1, q2, show ((kk : Int) < ks.length) by omega, op_len und22 rfl, indexAddr_slice und22 size3, load_one agg3, hqb, hqb2, List.getElem?_map, hki, hxi, hye, pick10, hpn, wrap64]
        refine ⟨trivial, ks.length - (kk + 1), by omega, kk + 1, _, rfl, by omega, trivial, rfl, fun j h1 h2 => ?_, ?_, ?_⟩
        · simp (disch := omega) only [ups_ne]; exact ha j h1 h2
        · simp only [ups_at, ↓reduceIte, Nat.reduceEqDiff]; rw [f13]; simp [hpn]
        · simp only [ups_at, ↓reduceIte, Nat.reduceEqDiff]; rfl
    · simp -dsimp (maxSteps := 4000000) (disch := first | omega | assumption | (simp only [FB, Nat.reduceAdd]; done) | (simp only [LB]; omega)) only [EB, ↓reduceIte, WB, Nat.reduceSub, Nat.reduceAdd, Int.reduceEq, Int.reduceNe, Int.reduceLT, Int.reduceLE, Int.reduceAdd, Int.reduceSub, Int.reduceMul, Int.reduceNeg, Int.reduceToNat, Nat.reduceEqDiff, Nat.reduceLT, Nat.reduceLeDiff, Nat.reduceMul, List.replicate, reduceCtorEq, op_len und9 rfl, f1, f2, f10, f13, f14, f15, q1, q2, show ((kk : Int) < ks.length) by omega, op_len und22 rfl, indexAddr_slice und22 size3, load_one agg3, hqb, hqb2, List.getElem?_map, hki, hxi, hye, pick10, wrap64]
      refine ⟨trivial, ks.length - (kk + 1), by omega, kk + 1, _, rfl, by omega, trivial, rfl, fun j h1 h2 => ?_, ?_, ?_⟩
      · simp (disch := omega) only [ups_ne]; exact ha j h1 h2
      · simp only [ups_at, ↓reduceIte, Nat.reduceEqDiff]; rw [f13, htk]; simp [Ne.symm hye]
      · simp only [ups_at, ↓reduceIte, Nat.reduceEqDiff]; rfl
  · simp -dsimp (maxSteps := 4000000) (disch := first | omega | assumption | (simp only [FB, Nat.reduceAdd]; done) | (simp only [LB]; omega)) only [EB, ↓reduceIte, WB, Nat.reduceSub, Nat.reduceAdd, Int.reduceEq, Int.reduceNe, Int.reduceLT, Int.reduceLE, Int.reduceAdd, Int.reduceSub, Int.reduceMul, Int.reduceNeg, Int.reduceToNat, Nat.reduceEqDiff, Nat.reduceLT, Nat.reduceLeDiff, Nat.reduceMul, List.replicate, reduceCtorEq, op_len und9 rfl, f1, f2, f10, f13, f14, f15, show ¬ ((kk : Int) < ks.length) by omega, op_len und22 rfl]
    refine hQ _ (fun j h1 h2 => ?_) ?_
    · simp (disch := omega) only [ups_ne]; exact ha j h1 h2
    · simp (disch := omega) only [ups_ne]; rw [f13, List.take_of_length_le (by omega)]
theorem loopI {p pu : Option Addr} {cp cu : Nat} (xs ks : List Int) (hkl : ks.length ≤ 100) {h : List (Nat × Blk)} {n bs : Nat} {d ds : List Nat} (nn : Nat) (hxl : xs.length ≤ 20) (hxb : ∀ x ∈ xs, -9223372036854775808 ≤ x) (s : UInt8)
    (hv : ListV encI h n (.slice p xs.length cp) xs) (hu : ListV encI h n (.slice pu ks.length cu) ks) (e : Nat → Value) (e1 : e 1 = .slice p xs.length cp) (e2 : e 2 = .slice pu ks.length cu) (e10 : e 10 = .int .i64 nn) (e13 : e 13 = .int .u8 s.toNat) (e14 : e 14 = .int .i64 0)
    (Q : ExitA → List Value → List Nat → AW → Prop) (hQ : ∀ e', (∀ j, j ≤ 12 → e' j = e j) → e' 13 = .int .u8 (signF ks nn 0 xs s).toNat → Q (.exit 4) (TT 117 e') ds ⟨n, h, bs, d⟩) :
    WCode Try.prog GV 3 none (loopN Try.f3 2) (TT 117 e) ds ⟨n, h, bs, d⟩ Q := by
  refine loop_at rfl ?_
  refine loop_inv (fun k t w => ∃ i : Nat, ∃ e' s', k = xs.length - i ∧ i ≤ xs.length ∧ w = ⟨n, h, bs, d⟩ ∧ t = TT 117 e' ∧ (∀ j, j ≤ 12 → e' j = e j) ∧ e' 13 = .int .u8 (UInt8.toNat s') ∧ signF ks nn i (xs.drop i) s' = signF ks nn 0 xs s ∧ e' 14 = .int .i64 i) ⟨0, e, s, rfl, by omega, rfl, rfl, fun _ _ => rfl, e13, rfl, e14⟩ ?_
  rintro k t w ⟨i, e', s', hk, hi, rfl, rfl, ha, f13, hsf, f14⟩
  have f1 := (ha 1 (by omega)).trans e1
  have f2 := (ha 2 (by omega)).trans e2
  have f10 := (ha 10 (by omega)).trans e10
  by_cases hlti : i < xs.length
  · have hxi : xs[i]? = some xs[i] := List.getElem?_eq_getElem hlti
    have hst := signF_step (keep := ks) (n := nn) (s := s') hxi
    simp -dsimp (maxSteps := 4000000) (disch := first | omega | assumption | (simp only [FB, Nat.reduceAdd]; done) | (simp only [LB]; omega)) only [EB, ↓reduceIte, WB, Nat.reduceSub, Nat.reduceAdd, Int.reduceEq, Int.reduceNe, Int.reduceLT, Int.reduceLE, Int.reduceAdd, Int.reduceSub, Int.reduceMul, Int.reduceNeg, Int.reduceToNat, Nat.reduceEqDiff, Nat.reduceLT, Nat.reduceLeDiff, Nat.reduceMul, List.replicate, reduceCtorEq, op_len und9 rfl, f1, f2, f10, f13, f14, show ((i : Int) < xs.length) by omega, op_len und22 rfl]
    refine loopK xs ks hkl i nn xs[i] hxi hxl (hxb _ (List.getElem_mem hlti)) s' hv hu _ (by simp only [ups_at, ↓reduceIte, Nat.reduceEqDiff]; exact f1) (by simp only [ups_at, ↓reduceIte, Nat.reduceEqDiff]; exact f2) (by simp only [ups_at, ↓reduceIte, Nat.reduceEqDiff]; exact f10) (by simp only [ups_at, ↓reduceIte, Nat.reduceEqDiff]; exact f13) (by simp only [ups_at, ↓reduceIte, Nat.reduceEqDiff]; exact f14) (by simp only [ups_at, ↓reduceIte, Nat.reduceEqDiff]) _ fun e2 g1 g13 => ?_
    have g14 := g1 14 (by omega) (by omega)
    simp only [ups_at, ↓reduceIte, Nat.reduceEqDiff] at g14
    rw [f14] at g14
    simp -dsimp (maxSteps := 4000000) (disch := first | omega | assumption | (simp only [FB, Nat.reduceAdd]; done) | (simp only [LB]; omega)) only [EB, ↓reduceIte, WB, Nat.reduceSub, Nat.reduceAdd, Int.reduceEq, Int.reduceNe, Int.reduceLT, Int.reduceLE, Int.reduceAdd, Int.reduceSub, Int.reduceMul, Int.reduceNeg, Int.reduceToNat, Nat.reduceEqDiff, Nat.reduceLT, Nat.reduceLeDiff, Nat.reduceMul, List.replicate, reduceCtorEq, op_len und9 rfl, g14, wrap64]
    refine ⟨trivial, xs.length - (i + 1), by omega, i + 1, _, (if (i : Int) ∈ ks ∧ pick xs[i] 12 = nn then letter i else s'), rfl, by omega, trivial, rfl, fun j h1 => ?_, ?_, ?_, ?_⟩
    · simp (disch := omega) only [ups_ne]; rw [g1 j (by omega) (by omega)]; simp (disch := omega) only [ups_ne]; exact ha j h1
    · simp only [ups_at, ↓reduceIte, Nat.reduceEqDiff]; exact g13
    · rw [← hst]; exact hsf
    · simp only [ups_at, ↓reduceIte, Nat.reduceEqDiff]; rfl
  · simp -dsimp (maxSteps := 4000000) (disch := first | omega | assumption | (simp only [FB, Nat.reduceAdd]; done) | (simp only [LB]; omega)) only [EB, ↓reduceIte, WB, Nat.reduceSub, Nat.reduceAdd, Int.reduceEq, Int.reduceNe, Int.reduceLT, Int.reduceLE, Int.reduceAdd, Int.reduceSub, Int.reduceMul, Int.reduceNeg, Int.reduceToNat, Nat.reduceEqDiff, Nat.reduceLT, Nat.reduceLeDiff, Nat.reduceMul, List.replicate, reduceCtorEq, op_len und9 rfl, f1, f2, f10, f13, f14, show ¬ ((i : Int) < xs.length) by omega, op_len und22 rfl]
    refine hQ _ (fun j h1 => ?_) ?_
    · simp (disch := omega) only [ups_ne]; exact ha j h1
    · simp (disch := omega) only [ups_ne]; rw [f13, ← hsf, List.drop_of_length_le (by omega)]; rfl
end Go.Proofs.YtgdmgolmeeigdaaAM
