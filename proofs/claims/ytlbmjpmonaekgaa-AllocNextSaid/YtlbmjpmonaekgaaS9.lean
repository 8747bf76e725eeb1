/- Chapter 14: a row sorted. -/
import Derived.Test.YtlbmjpmonaekgaaS8
import Derived.Sort.LotB
namespace Go.Proofs.YtlbmjpmonaekgaaAM
open Go Go.RowKit Go.Sort
set_option linter.unusedVariables false
set_option linter.unusedSimpArgs false
set_option maxRecDepth 10000
set_option maxHeartbeats 4000000

section
variable {E : Program} {G : Gives} {fn : FuncId} {ro : Option Nat} {t : List Value} {ds : List Nat} {a : AW} {x y : Code} {Q : ExitA → List Value → List Nat → AW → Prop}
theorem code_cut (R : List Value → List Nat → AW → Prop) (h1 : WCode E G fn ro x t ds a fun e t ds a => onNormal e (R t ds a) (Q e t ds a)) (h2 : ∀ t ds a, R t ds a → WCode E G fn ro y t ds a Q) : WCode E G fn ro (.seq x y) t ds a Q := by
  rw [code_seq]
  refine code_weaken h1 fun e t ds a h => ?_
  cases e with
  | normal => exact h2 _ _ _ h
  | exit i => exact h
  | ret => exact h
  | goto l => exact h
end
/-- The frame of pdqsort, within its loop. -/
def PS (q N c n0 : Nat) (sp : Option Nat) (h0 : List (Nat × Blk)) (d0 : Array Int) (lo hi : Nat) (lim : Int) (wb wp : Bool) (dk : Array Int) (n : Nat) (h : List (Nat × Blk)) (dd : List Nat) (e : Nat → Value) : Prop :=
  Row n0 h0 q d0 dk n h dd ∧ dk.size = N ∧ e 0 = .slice (some ⟨q, 0, sp⟩) N c ∧ e 1 = .int .i64 lo ∧ e 2 = .int .i64 hi ∧ e 3 = .int .i64 lim ∧ e 8 = .bool wb ∧ e 9 = .bool wp
theorem pdq59 (q N c : Nat) (sp : Option Nat) (hN : N < 65536) : ∀ (m : Nat) (d : Array Int) (lo hi : Nat) (lim : Int) (a : AW) (K : Value → AW → Prop), hi - lo = m → lo ≤ hi → hi ≤ N → d.size = N → 0 ≤ lim → lim ≤ 1000000 → Sort.Below ltInt lo hi d → look q a.heap = some (.cells (cU d) true) → q < a.next →
    (∀ a' d', PermIn lo hi d d' → SortedIn ltInt lo hi d' → Aft a a' q d d' → K (.tuple #[]) a') → WCall Try.prog GC 59 [.slice (some ⟨q, 0, sp⟩) N c, .int .i64 lo, .int .i64 hi, .int .i64 lim] a K := by
  intro m
  induction m using Nat.strongRecOn with
  | ind m ih =>
  intro d lo0 hi0 lim0 a K hm hlo0 hhi0 hd hl0 hl1 hB0 hq hqn hK
  rw [call_env Try.func59 rfl Try.ntmps59 rfl rfl (by simp)]
  have hfin : ∀ dk n h dd, Row a.next a.heap q d dk n h dd → PermIn lo0 hi0 d dk → SortedIn ltInt lo0 hi0 dk → K (oneOf (leaveA a [] ⟨n, h, a.next, dd⟩).1) (leaveA a [] ⟨n, h, a.next, dd⟩).2 := by
    intro dk n h dd r h1 h2
    obtain ⟨a', e1, ha⟩ := r.leave (bs := a.base) (ds0 := a.dirty) (vs := []) rfl
    rw [show a = ⟨a.next, a.heap, a.base, a.dirty⟩ from rfl, e1]
    exact hK a' dk h1 h2 ha
  simp -dsimp (maxSteps := 4000000) (disch := first | omega | assumption | (simp only [FB, Nat.reduceAdd]; done) | (simp only [LB]; omega)) only [EB, ↓reduceIte, WB, Nat.reduceSub, Nat.reduceAdd, Int.reduceEq, Int.reduceNe, Int.reduceLT, Int.reduceLE, Int.reduceAdd, Int.reduceSub, Int.reduceMul, Int.reduceNeg, Int.reduceToNat, Nat.reduceEqDiff, Nat.reduceLT, Nat.reduceLeDiff, Nat.reduceMul, List.replicate, reduceCtorEq, TB, NB, MB, ]
  refine loop_inv (fun k t w => ∃ (lo hi : Nat) (lim : Int) (wb wp : Bool) (dk : Array Int) (n : Nat) (h : List (Nat × Blk)) (dd : List Nat), ∃ e, k = hi - lo ∧ lo ≤ hi ∧ hi ≤ N ∧ hi - lo ≤ m ∧ 0 ≤ lim ∧ lim ≤ 1000000 ∧ Sort.Below ltInt lo hi dk ∧ (∀ R, PermIn lo hi dk R → SortedIn ltInt lo hi R → PermIn lo0 hi0 d R ∧ SortedIn ltInt lo0 hi0 R) ∧ w = ⟨n, h, a.next, dd⟩ ∧ t = TT 134 e ∧ PS q N c a.next sp a.heap d lo hi lim wb wp dk n h dd e)
    ⟨lo0, hi0, lim0, true, true, d, a.next, a.heap, [], _, rfl, hlo0, hhi0, by omega, hl0, hl1, hB0, fun R h1 h2 => ⟨h1, h2⟩, rfl, rfl, .start hq hqn, hd, rfl, rfl, rfl, rfl, rfl, rfl⟩ ?_
  rintro k t w ⟨lo, hi, lim, wb, wp, dk, n, h, dd, e, rfl, hlo, hhi, hmm, hl2, hl3, hB, hgo, rfl, rfl, r, hdk, e0, e1, e2, e3, e8, e9⟩
  obtain ⟨L, hL⟩ : ∃ L, L = hi - lo := ⟨_, rfl⟩
  have hb0 : (hi : Int) - (lo : Int) = (L : Int) := by omega
  rw [code_block]
  refine code_cut (fun t ds w => ds = [] ∧ w = ⟨n, h, a.next, dd⟩ ∧ ∃ e, t = TT 134 e ∧ e 10 = .int .i64 L ∧ PS q N c a.next sp a.heap d lo hi lim wb wp dk n h dd e) ?_ ?_
  · simp -dsimp (maxSteps := 4000000) (disch := first | omega | assumption | (simp only [FB, Nat.reduceAdd]; done) | (simp only [LB]; omega)) only [EB, ↓reduceIte, WB, Nat.reduceSub, Nat.reduceAdd, Int.reduceEq, Int.reduceNe, Int.reduceLT, Int.reduceLE, Int.reduceAdd, Int.reduceSub, Int.reduceMul, Int.reduceNeg, Int.reduceToNat, Nat.reduceEqDiff, Nat.reduceLT, Nat.reduceLeDiff, Nat.reduceMul, List.replicate, reduceCtorEq, TB, NB, MB, e0, e1, e2, e3, e8, e9, wrap64, hb0]
    refine ⟨trivial, trivial, _, rfl, rfl, r, hdk, ?_⟩
    simp only [ups_at, ↓reduceIte, Nat.reduceEqDiff]
    exact ⟨e0, e1, e2, e3, e8, e9⟩
  clear e0 e1 e2 e3 e8 e9 e
  rintro _ _ _ ⟨rfl, rfl, e, rfl, e10, -, -, e0, e1, e2, e3, e8, e9⟩
  by_cases h12 : L ≤ 12
  · simp -dsimp (maxSteps := 4000000) (disch := first | omega | assumption | (simp only [FB, Nat.reduceAdd]; done) | (simp only [LB]; omega)) only [EB, ↓reduceIte, WB, Nat.reduceSub, Nat.reduceAdd, Int.reduceEq, Int.reduceNe, Int.reduceLT, Int.reduceLE, Int.reduceAdd, Int.reduceSub, Int.reduceMul, Int.reduceNeg, Int.reduceToNat, Nat.reduceEqDiff, Nat.reduceLT, Nat.reduceLeDiff, Nat.reduceMul, List.replicate, reduceCtorEq, TB, NB, MB, e0, e1, e2, e3, e8, e9, e10, show (L : Int) ≤ 12 by omega]
    rw [← hdk]
    refine ins62 q sp c dk lo hi hlo (by omega) (by omega) _ r.at_ (Nat.lt_of_lt_of_le r.lt r.le) _ fun a' ha => ?_
    obtain ⟨n', h', dd', rfl, hn', r'⟩ := r.call ha
    obtain ⟨p1, p2⟩ := insertionSort_holds swo_ltInt dk lo hi hlo (by omega)
    obtain ⟨p3, p4⟩ := hgo _ p1 p2
    simp -dsimp (maxSteps := 4000000) (disch := first | omega | assumption | (simp only [FB, Nat.reduceAdd]; done) | (simp only [LB]; omega)) only [EB, ↓reduceIte, WB, Nat.reduceSub, Nat.reduceAdd, Int.reduceEq, Int.reduceNe, Int.reduceLT, Int.reduceLE, Int.reduceAdd, Int.reduceSub, Int.reduceMul, Int.reduceNeg, Int.reduceToNat, Nat.reduceEqDiff, Nat.reduceLT, Nat.reduceLeDiff, Nat.reduceMul, List.replicate, reduceCtorEq, TB, NB, MB, ]
    exact hfin _ _ _ _ r' p3 p4
  refine code_cut (fun t ds w => ds = [] ∧ w = ⟨n, h, a.next, dd⟩ ∧ ∃ e, t = TT 134 e ∧ e 10 = .int .i64 L ∧ PS q N c a.next sp a.heap d lo hi lim wb wp dk n h dd e) ?_ ?_
  · simp -dsimp (maxSteps := 4000000) (disch := first | omega | assumption | (simp only [FB, Nat.reduceAdd]; done) | (simp only [LB]; omega)) only [EB, ↓reduceIte, WB, Nat.reduceSub, Nat.reduceAdd, Int.reduceEq, Int.reduceNe, Int.reduceLT, Int.reduceLE, Int.reduceAdd, Int.reduceSub, Int.reduceMul, Int.reduceNeg, Int.reduceToNat, Nat.reduceEqDiff, Nat.reduceLT, Nat.reduceLeDiff, Nat.reduceMul, List.replicate, reduceCtorEq, TB, NB, MB, e0, e1, e2, e3, e8, e9, e10, show ¬ (L : Int) ≤ 12 by omega]
    refine ⟨trivial, trivial, _, rfl, ?_, r, hdk, ?_⟩
    · simp only [ups_at, ↓reduceIte, Nat.reduceEqDiff]; exact e10
    · simp only [ups_at, ↓reduceIte, Nat.reduceEqDiff]; exact ⟨e0, e1, e2, e3, e8, e9⟩
  clear e0 e1 e2 e3 e8 e9 e10 e
  rintro _ _ _ ⟨rfl, rfl, e, rfl, e10, -, -, e0, e1, e2, e3, e8, e9⟩
  by_cases hz : lim = 0
  · subst hz
    simp -dsimp (maxSteps := 4000000) (disch := first | omega | assumption | (simp only [FB, Nat.reduceAdd]; done) | (simp only [LB]; omega)) only [EB, ↓reduceIte, WB, Nat.reduceSub, Nat.reduceAdd, Int.reduceEq, Int.reduceNe, Int.reduceLT, Int.reduceLE, Int.reduceAdd, Int.reduceSub, Int.reduceMul, Int.reduceNeg, Int.reduceToNat, Nat.reduceEqDiff, Nat.reduceLT, Nat.reduceLeDiff, Nat.reduceMul, List.replicate, reduceCtorEq, TB, NB, MB, e0, e1, e2, e3, e8, e9, e10, eq_self]
    refine heap63 q sp c dk lo hi N hdk hlo hhi (by omega) (by omega) _ r.at_ (Nat.lt_of_lt_of_le r.lt r.le) _ fun a' ha => ?_
    obtain ⟨n', h', dd', rfl, hn', r'⟩ := r.call ha
    obtain ⟨p1, p2⟩ := heapSort_holds swo_ltInt dk lo hi hlo (by omega)
    obtain ⟨p3, p4⟩ := hgo _ p1 p2
    simp -dsimp (maxSteps := 4000000) (disch := first | omega | assumption | (simp only [FB, Nat.reduceAdd]; done) | (simp only [LB]; omega)) only [EB, ↓reduceIte, WB, Nat.reduceSub, Nat.reduceAdd, Int.reduceEq, Int.reduceNe, Int.reduceLT, Int.reduceLE, Int.reduceAdd, Int.reduceSub, Int.reduceMul, Int.reduceNeg, Int.reduceToNat, Nat.reduceEqDiff, Nat.reduceLT, Nat.reduceLeDiff, Nat.reduceMul, List.replicate, reduceCtorEq, TB, NB, MB, ]
    exact hfin _ _ _ _ r' p3 p4
  refine code_cut (fun t ds w => ds = [] ∧ w = ⟨n, h, a.next, dd⟩ ∧ ∃ e, t = TT 134 e ∧ e 10 = .int .i64 L ∧ PS q N c a.next sp a.heap d lo hi lim wb wp dk n h dd e) ?_ ?_
  · simp -dsimp (maxSteps := 4000000) (disch := first | omega | assumption | (simp only [FB, Nat.reduceAdd]; done) | (simp only [LB]; omega)) only [EB, ↓reduceIte, WB, Nat.reduceSub, Nat.reduceAdd, Int.reduceEq, Int.reduceNe, Int.reduceLT, Int.reduceLE, Int.reduceAdd, Int.reduceSub, Int.reduceMul, Int.reduceNeg, Int.reduceToNat, Nat.reduceEqDiff, Nat.reduceLT, Nat.reduceLeDiff, Nat.reduceMul, List.replicate, reduceCtorEq, TB, NB, MB, e0, e1, e2, e3, e8, e9, e10, hz]
    refine ⟨trivial, trivial, _, rfl, ?_, r, hdk, ?_⟩
    · simp only [ups_at, ↓reduceIte, Nat.reduceEqDiff]; exact e10
    · simp only [ups_at, ↓reduceIte, Nat.reduceEqDiff]; exact ⟨e0, e1, e2, e3, e8, e9⟩
  clear e0 e1 e2 e3 e8 e9 e10 e
  rintro _ _ _ ⟨rfl, rfl, e, rfl, e10, -, -, e0, e1, e2, e3, e8, e9⟩
  -- patterns broken
  refine code_cut (fun t ds w => ds = [] ∧ ∃ (lim' : Int) (d1 : Array Int) (n : Nat) (h : List (Nat × Blk)) (dd : List Nat), w = ⟨n, h, a.next, dd⟩ ∧ 0 ≤ lim' ∧ lim' ≤ 1000000 ∧ PermIn lo hi dk d1 ∧ ∃ e, t = TT 134 e ∧ e 10 = .int .i64 L ∧ PS q N c a.next sp a.heap d lo hi lim' wb wp d1 n h dd e) ?_ ?_
  · cases wb with
    | true =>
      simp -dsimp (maxSteps := 4000000) (disch := first | omega | assumption | (simp only [FB, Nat.reduceAdd]; done) | (simp only [LB]; omega)) only [EB, ↓reduceIte, WB, Nat.reduceSub, Nat.reduceAdd, Int.reduceEq, Int.reduceNe, Int.reduceLT, Int.reduceLE, Int.reduceAdd, Int.reduceSub, Int.reduceMul, Int.reduceNeg, Int.reduceToNat, Nat.reduceEqDiff, Nat.reduceLT, Nat.reduceLeDiff, Nat.reduceMul, List.replicate, reduceCtorEq, TB, NB, MB, e0, e1, e2, e3, e8, e9, e10]
      refine ⟨trivial, lim, dk, _, _, _, rfl, hl2, hl3, permIn_refl dk lo hi, _, rfl, ?_, r, hdk, ?_⟩
      · simp only [ups_at, ↓reduceIte, Nat.reduceEqDiff]; exact e10
      · simp only [ups_at, ↓reduceIte, Nat.reduceEqDiff]; exact ⟨e0, e1, e2, e3, e8, e9⟩
    | false =>
      simp -dsimp (maxSteps := 4000000) (disch := first | omega | assumption | (simp only [FB, Nat.reduceAdd]; done) | (simp only [LB]; omega)) only [EB, ↓reduceIte, WB, Nat.reduceSub, Nat.reduceAdd, Int.reduceEq, Int.reduceNe, Int.reduceLT, Int.reduceLE, Int.reduceAdd, Int.reduceSub, Int.reduceMul, Int.reduceNeg, Int.reduceToNat, Nat.reduceEqDiff, Nat.reduceLT, Nat.reduceLeDiff, Nat.reduceMul, List.replicate, reduceCtorEq, TB, NB, MB, e0, e1, e2, e3, e8, e9, e10]
      refine break64 q sp c dk lo hi N hdk (by omega) hhi hN _ r.at_ (Nat.lt_of_lt_of_le r.lt r.le) _ fun a' d1 hp1 ha => ?_
      obtain ⟨n', h', dd', rfl, hn', r'⟩ := r.call ha
      simp -dsimp (maxSteps := 4000000) (disch := first | omega | assumption | (simp only [FB, Nat.reduceAdd]; done) | (simp only [LB]; omega)) only [EB, ↓reduceIte, WB, Nat.reduceSub, Nat.reduceAdd, Int.reduceEq, Int.reduceNe, Int.reduceLT, Int.reduceLE, Int.reduceAdd, Int.reduceSub, Int.reduceMul, Int.reduceNeg, Int.reduceToNat, Nat.reduceEqDiff, Nat.reduceLT, Nat.reduceLeDiff, Nat.reduceMul, List.replicate, reduceCtorEq, TB, NB, MB, e0, e1, e2, e3, e8, e9, e10, wrap64]
      refine ⟨trivial, lim - 1, d1, _, _, _, rfl, by omega, by omega, hp1, _, rfl, ?_, r', by rw [hp1.1]; exact hdk, ?_⟩
      · simp only [ups_at, ↓reduceIte, Nat.reduceEqDiff]; exact e10
      · simp only [ups_at, ↓reduceIte, Nat.reduceEqDiff]; exact ⟨e0, e1, e2, (by first | trivial | rfl | omega), e8, e9⟩
  clear e0 e1 e2 e3 e8 e9 e10 e r
  rintro _ _ _ ⟨rfl, lim1, d1, n1, h1, dd1, rfl, hla, hlb, hp1, e, rfl, e10, r, hd1, e0, e1, e2, e3, e8, e9⟩
  -- the pivot
  refine code_cut (fun t ds w => ds = [] ∧ w = ⟨n1, h1, a.next, dd1⟩ ∧ ∃ (pv : Nat) (ht : Int), ∃ e, t = TT 134 e ∧ lo ≤ pv ∧ pv < hi ∧ e 10 = .int .i64 L ∧ e 11 = .int .i64 pv ∧ e 12 = .int .i64 ht ∧ PS q N c a.next sp a.heap d lo hi lim1 wb wp d1 n1 h1 dd1 e) ?_ ?_
  · simp -dsimp (maxSteps := 4000000) (disch := first | omega | assumption | (simp only [FB, Nat.reduceAdd]; done) | (simp only [LB]; omega)) only [EB, ↓reduceIte, WB, Nat.reduceSub, Nat.reduceAdd, Int.reduceEq, Int.reduceNe, Int.reduceLT, Int.reduceLE, Int.reduceAdd, Int.reduceSub, Int.reduceMul, Int.reduceNeg, Int.reduceToNat, Nat.reduceEqDiff, Nat.reduceLT, Nat.reduceLeDiff, Nat.reduceMul, List.replicate, reduceCtorEq, TB, NB, MB, e0, e1, e2, e3, e8, e9, e10]
    refine piv65 q sp c d1 lo hi N hd1 (by omega) hhi (by omega) _ r.at_ (Nat.lt_of_lt_of_le r.lt r.le) _ fun pv ht g1 g2 => ?_
    simp -dsimp (maxSteps := 4000000) (disch := first | omega | assumption | (simp only [FB, Nat.reduceAdd]; done) | (simp only [LB]; omega)) only [EB, ↓reduceIte, WB, Nat.reduceSub, Nat.reduceAdd, Int.reduceEq, Int.reduceNe, Int.reduceLT, Int.reduceLE, Int.reduceAdd, Int.reduceSub, Int.reduceMul, Int.reduceNeg, Int.reduceToNat, Nat.reduceEqDiff, Nat.reduceLT, Nat.reduceLeDiff, Nat.reduceMul, List.replicate, reduceCtorEq, TB, NB, MB, e0, e1, e2, e3, e8, e9, e10]
    refine ⟨trivial, trivial, pv, ht, _, rfl, g1, g2, ?_, rfl, rfl, r, hd1, ?_⟩
    · simp only [ups_at, ↓reduceIte, Nat.reduceEqDiff]; exact e10
    · simp only [ups_at, ↓reduceIte, Nat.reduceEqDiff]; exact ⟨e0, e1, e2, e3, e8, e9⟩
  clear e0 e1 e2 e3 e8 e9 e10 e
  rintro _ _ _ ⟨rfl, rfl, pv, ht, e, rfl, hv1, hv2, e10, e11, e12, -, -, e0, e1, e2, e3, e8, e9⟩
  -- turned round
  refine code_cut (fun t ds w => ds = [] ∧ ∃ (d2 : Array Int) (n : Nat) (h : List (Nat × Blk)) (dd : List Nat), w = ⟨n, h, a.next, dd⟩ ∧ PermIn lo hi d1 d2 ∧ ∃ (pv : Nat) (ht : Int), ∃ e, t = TT 134 e ∧ lo ≤ pv ∧ pv < hi ∧ e 10 = .int .i64 L ∧ e 11 = .int .i64 pv ∧ e 12 = .int .i64 ht ∧ PS q N c a.next sp a.heap d lo hi lim1 wb wp d2 n h dd e) ?_ ?_
  · by_cases h2 : ht = 2
    · subst h2
      simp -dsimp (maxSteps := 4000000) (disch := first | omega | assumption | (simp only [FB, Nat.reduceAdd]; done) | (simp only [LB]; omega)) only [EB, ↓reduceIte, WB, Nat.reduceSub, Nat.reduceAdd, Int.reduceEq, Int.reduceNe, Int.reduceLT, Int.reduceLE, Int.reduceAdd, Int.reduceSub, Int.reduceMul, Int.reduceNeg, Int.reduceToNat, Nat.reduceEqDiff, Nat.reduceLT, Nat.reduceLeDiff, Nat.reduceMul, List.replicate, reduceCtorEq, TB, NB, MB, e0, e1, e2, e3, e8, e9, e10, e11, e12, eq_self]
      rw [← hd1]
      refine rev66 q sp c d1 lo hi hlo (by omega) (by omega) (by omega) _ r.at_ (Nat.lt_of_lt_of_le r.lt r.le) _ fun a' ha => ?_
      obtain ⟨n', h', dd', rfl, hn', r'⟩ := r.call ha
      have hpr := reverseRange_holds d1 lo hi hlo (by omega)
      have hpv : (hi : Int) - 1 - ((pv : Int) - lo) = (((hi - 1) - (pv - lo) : Nat) : Int) := by omega
      simp -dsimp (maxSteps := 4000000) (disch := first | omega | assumption | (simp only [FB, Nat.reduceAdd]; done) | (simp only [LB]; omega)) only [EB, ↓reduceIte, WB, Nat.reduceSub, Nat.reduceAdd, Int.reduceEq, Int.reduceNe, Int.reduceLT, Int.reduceLE, Int.reduceAdd, Int.reduceSub, Int.reduceMul, Int.reduceNeg, Int.reduceToNat, Nat.reduceEqDiff, Nat.reduceLT, Nat.reduceLeDiff, Nat.reduceMul, List.replicate, reduceCtorEq, TB, NB, MB, e0, e1, e2, e3, e8, e9, e10, e11, e12, wrap64, hpv]
      refine ⟨trivial, _, _, _, _, rfl, hpr, (hi - 1) - (pv - lo), 1, _, rfl, by omega, by omega, ?_, rfl, rfl, r', by rw [hpr.1], ?_⟩
      · simp only [ups_at, ↓reduceIte, Nat.reduceEqDiff]; exact e10
      · simp only [ups_at, ↓reduceIte, Nat.reduceEqDiff]; exact ⟨by first | exact e0 | (rw [e0, hd1]) | (rw [← hd1] at e0; exact e0), e1, e2, e3, e8, e9⟩
    · simp -dsimp (maxSteps := 4000000) (disch := first | omega | assumption | (simp only [FB, Nat.reduceAdd]; done) | (simp only [LB]; omega)) only [EB, ↓reduceIte, WB, Nat.reduceSub, Nat.reduceAdd, Int.reduceEq, Int.reduceNe, Int.reduceLT, Int.reduceLE, Int.reduceAdd, Int.reduceSub, Int.reduceMul, Int.reduceNeg, Int.reduceToNat, Nat.reduceEqDiff, Nat.reduceLT, Nat.reduceLeDiff, Nat.reduceMul, List.replicate, reduceCtorEq, TB, NB, MB, e0, e1, e2, e3, e8, e9, e10, e11, e12, h2]
      refine ⟨trivial, d1, _, _, _, rfl, permIn_refl d1 lo hi, pv, ht, _, rfl, hv1, hv2, ?_, ?_, ?_, r, hd1, ?_⟩
      · simp only [ups_at, ↓reduceIte, Nat.reduceEqDiff]; exact e10
      · simp only [ups_at, ↓reduceIte, Nat.reduceEqDiff]; exact e11
      · simp only [ups_at, ↓reduceIte, Nat.reduceEqDiff]; exact e12
      · simp only [ups_at, ↓reduceIte, Nat.reduceEqDiff]; exact ⟨e0, e1, e2, e3, e8, e9⟩
  clear e0 e1 e2 e3 e8 e9 e10 e11 e12 e r hv1 hv2
  rintro _ _ _ ⟨rfl, d2, n2, h2, dd2, rfl, hp2, pv, ht, e, rfl, hv1, hv2, e10, e11, e12, r, hd2, e0, e1, e2, e3, e8, e9⟩
  have hp12 := permIn_trans _ _ _ lo hi hp1 hp2
  have hB2 : Sort.Below ltInt lo hi d2 := hB.perm (by omega) hp12
  -- nearly sorted
  refine code_cut (fun t ds w => ds = [] ∧ ∃ (d3 : Array Int) (n : Nat) (h : List (Nat × Blk)) (dd : List Nat), w = ⟨n, h, a.next, dd⟩ ∧ PermIn lo hi d2 d3 ∧ ∃ e, t = TT 134 e ∧ e 10 = .int .i64 L ∧ e 11 = .int .i64 pv ∧ PS q N c a.next sp a.heap d lo hi lim1 wb wp d3 n h dd e) ?_ ?_
  · by_cases hc : wb = true ∧ wp = true ∧ ht = 1
    · obtain ⟨rfl, rfl, rfl⟩ := hc
      simp -dsimp (maxSteps := 4000000) (disch := first | omega | assumption | (simp only [FB, Nat.reduceAdd]; done) | (simp only [LB]; omega)) only [EB, ↓reduceIte, WB, Nat.reduceSub, Nat.reduceAdd, Int.reduceEq, Int.reduceNe, Int.reduceLT, Int.reduceLE, Int.reduceAdd, Int.reduceSub, Int.reduceMul, Int.reduceNeg, Int.reduceToNat, Nat.reduceEqDiff, Nat.reduceLT, Nat.reduceLeDiff, Nat.reduceMul, List.replicate, reduceCtorEq, TB, NB, MB, e0, e1, e2, e3, e8, e9, e10, e11, e12, eq_self]
      refine pins67 q sp c d2 lo hi N hd2 (by omega) hhi (by omega) _ r.at_ (Nat.lt_of_lt_of_le r.lt r.le) _ fun a' ha => ?_
      obtain ⟨n', h', dd', rfl, hn', r'⟩ := r.call ha
      obtain ⟨p1, p2⟩ := partialInsertionSort_holds swo_ltInt d2 lo hi (by omega) (by omega) hB2
      cases hb : (partialInsertionSort ltInt d2 lo hi).2 with
      | true =>
        obtain ⟨p3, p4⟩ := hgo _ (permIn_trans _ _ _ lo hi hp12 p1) (p2 hb)
        simp -dsimp (maxSteps := 4000000) (disch := first | omega | assumption | (simp only [FB, Nat.reduceAdd]; done) | (simp only [LB]; omega)) only [EB, ↓reduceIte, WB, Nat.reduceSub, Nat.reduceAdd, Int.reduceEq, Int.reduceNe, Int.reduceLT, Int.reduceLE, Int.reduceAdd, Int.reduceSub, Int.reduceMul, Int.reduceNeg, Int.reduceToNat, Nat.reduceEqDiff, Nat.reduceLT, Nat.reduceLeDiff, Nat.reduceMul, List.replicate, reduceCtorEq, TB, NB, MB, hb]
        exact hfin _ _ _ _ r' p3 p4
      | false =>
        simp -dsimp (maxSteps := 4000000) (disch := first | omega | assumption | (simp only [FB, Nat.reduceAdd]; done) | (simp only [LB]; omega)) only [EB, ↓reduceIte, WB, Nat.reduceSub, Nat.reduceAdd, Int.reduceEq, Int.reduceNe, Int.reduceLT, Int.reduceLE, Int.reduceAdd, Int.reduceSub, Int.reduceMul, Int.reduceNeg, Int.reduceToNat, Nat.reduceEqDiff, Nat.reduceLT, Nat.reduceLeDiff, Nat.reduceMul, List.replicate, reduceCtorEq, TB, NB, MB, hb]
        refine ⟨trivial, _, _, _, _, rfl, p1, _, rfl, ?_, ?_, r', by rw [p1.1]; exact hd2, ?_⟩
        · simp only [ups_at, ↓reduceIte, Nat.reduceEqDiff]; exact e10
        · simp only [ups_at, ↓reduceIte, Nat.reduceEqDiff]; exact e11
        · simp only [ups_at, ↓reduceIte, Nat.reduceEqDiff]; exact ⟨e0, e1, e2, e3, e8, e9⟩
    · have hskip : ∀ e', e' 10 = .int .i64 L → e' 11 = .int .i64 pv → e' 0 = .slice (some ⟨q, 0, sp⟩) N c ∧ e' 1 = .int .i64 lo ∧ e' 2 = .int .i64 hi ∧ e' 3 = .int .i64 lim1 ∧ e' 8 = .bool wb ∧ e' 9 = .bool wp →
          ∃ (d3 : Array Int) (n : Nat) (h : List (Nat × Blk)) (dd : List Nat), (⟨n2, h2, a.next, dd2⟩ : AW) = ⟨n, h, a.next, dd⟩ ∧ PermIn lo hi d2 d3 ∧ ∃ e, TT 134 e' = TT 134 e ∧ e 10 = .int .i64 L ∧ e 11 = .int .i64 pv ∧ PS q N c a.next sp a.heap d lo hi lim1 wb wp d3 n h dd e :=
        fun e' x10 x11 x => ⟨d2, _, _, _, rfl, permIn_refl d2 lo hi, e', rfl, x10, x11, r, hd2, x⟩
      cases wb with
      | false =>
        simp -dsimp (maxSteps := 4000000) (disch := first | omega | assumption | (simp only [FB, Nat.reduceAdd]; done) | (simp only [LB]; omega)) only [EB, ↓reduceIte, WB, Nat.reduceSub, Nat.reduceAdd, Int.reduceEq, Int.reduceNe, Int.reduceLT, Int.reduceLE, Int.reduceAdd, Int.reduceSub, Int.reduceMul, Int.reduceNeg, Int.reduceToNat, Nat.reduceEqDiff, Nat.reduceLT, Nat.reduceLeDiff, Nat.reduceMul, List.replicate, reduceCtorEq, TB, NB, MB, e0, e1, e2, e3, e8, e9, e10, e11, e12]
        refine ⟨trivial, hskip _ ?_ ?_ ?_⟩ <;> simp only [ups_at, ↓reduceIte, Nat.reduceEqDiff] <;> first | assumption | exact ⟨e0, e1, e2, e3, e8, e9⟩
      | true => cases wp with
        | false =>
          simp -dsimp (maxSteps := 4000000) (disch := first | omega | assumption | (simp only [FB, Nat.reduceAdd]; done) | (simp only [LB]; omega)) only [EB, ↓reduceIte, WB, Nat.reduceSub, Nat.reduceAdd, Int.reduceEq, Int.reduceNe, Int.reduceLT, Int.reduceLE, Int.reduceAdd, Int.reduceSub, Int.reduceMul, Int.reduceNeg, Int.reduceToNat, Nat.reduceEqDiff, Nat.reduceLT, Nat.reduceLeDiff, Nat.reduceMul, List.replicate, reduceCtorEq, TB, NB, MB, e0, e1, e2, e3, e8, e9, e10, e11, e12]
          refine ⟨trivial, hskip _ ?_ ?_ ?_⟩ <;> simp only [ups_at, ↓reduceIte, Nat.reduceEqDiff] <;> first | assumption | exact ⟨e0, e1, e2, e3, e8, e9⟩
        | true =>
          have h1 : ¬ ht = 1 := fun h => hc ⟨rfl, rfl, h⟩
          simp -dsimp (maxSteps := 4000000) (disch := first | omega | assumption | (simp only [FB, Nat.reduceAdd]; done) | (simp only [LB]; omega)) only [EB, ↓reduceIte, WB, Nat.reduceSub, Nat.reduceAdd, Int.reduceEq, Int.reduceNe, Int.reduceLT, Int.reduceLE, Int.reduceAdd, Int.reduceSub, Int.reduceMul, Int.reduceNeg, Int.reduceToNat, Nat.reduceEqDiff, Nat.reduceLT, Nat.reduceLeDiff, Nat.reduceMul, List.replicate, reduceCtorEq, TB, NB, MB, e0, e1, e2, e3, e8, e9, e10, e11, e12, h1]
          refine ⟨trivial, hskip _ ?_ ?_ ?_⟩ <;> simp only [ups_at, ↓reduceIte, Nat.reduceEqDiff] <;> first | assumption | exact ⟨e0, e1, e2, e3, e8, e9⟩
  clear e0 e1 e2 e3 e8 e9 e10 e11 e12 e r
  rintro _ _ _ ⟨rfl, d3, n3, h3, dd3, rfl, hp3, e, rfl, e10, e11, r, hd3, e0, e1, e2, e3, e8, e9⟩
  have hp13 := permIn_trans _ _ _ lo hi hp12 hp3
  have hB3 : Sort.Below ltInt lo hi d3 := hB.perm (by omega) hp13
  have hgo3 : ∀ R, PermIn lo hi d3 R → SortedIn ltInt lo hi R → PermIn lo0 hi0 d R ∧ SortedIn ltInt lo0 hi0 R := fun R x1 x2 => hgo R (permIn_trans _ _ _ lo hi hp13 x1) x2
  have hqd := r.at_
  have hqn1 : q < n3 + 1 := by have := r.le; omega
  have hlen := cU_len d3
  -- equal ones
  refine code_cut (fun t ds w => ds = [] ∧ ∃ (n : Nat) (h : List (Nat × Blk)) (dd : List Nat), w = ⟨n, h, a.next, dd⟩ ∧ ∃ e, t = TT 134 e ∧ e 10 = .int .i64 L ∧ e 11 = .int .i64 pv ∧ PS q N c a.next sp a.heap d lo hi lim1 wb wp d3 n h dd e) ?_ ?_
  · have rv := cU_at (d := d3) (i := pv) (by omega)
    simp -dsimp (maxSteps := 4000000) (disch := first | omega | assumption | (simp only [FB, Nat.reduceAdd]; done) | (simp only [LB]; omega)) only [EB, ↓reduceIte, WB, Nat.reduceSub, Nat.reduceAdd, Int.reduceEq, Int.reduceNe, Int.reduceLT, Int.reduceLE, Int.reduceAdd, Int.reduceSub, Int.reduceMul, Int.reduceNeg, Int.reduceToNat, Nat.reduceEqDiff, Nat.reduceLT, Nat.reduceLeDiff, Nat.reduceMul, List.replicate, reduceCtorEq, TB, NB, MB, ]
    refine code_draw [(3, 4), (3, 5), (3, 8), (3, 9), (3, 10), (3, 11), (4, 8), (4, 9), (4, 10), (4, 11), (5, 8), (5, 9), (5, 10), (5, 11), (6, 8), (6, 9), (6, 10), (6, 11), (7, 8), (7, 9), (7, 10), (7, 11), (8, 9)] (by decide +kernel) (by decide +kernel) ?_
    rcases Nat.eq_zero_or_pos lo with hz0 | hpos
    · simp -dsimp (maxSteps := 4000000) (disch := first | omega | assumption | (simp only [FB, Nat.reduceAdd]; done) | (simp only [LB]; omega)) only [EB, ↓reduceIte, WB, Nat.reduceSub, Nat.reduceAdd, Int.reduceEq, Int.reduceNe, Int.reduceLT, Int.reduceLE, Int.reduceAdd, Int.reduceSub, Int.reduceMul, Int.reduceNeg, Int.reduceToNat, Nat.reduceEqDiff, Nat.reduceLT, Nat.reduceLeDiff, Nat.reduceMul, List.replicate, reduceCtorEq, RB, Nat.reduceEqDiff, TB, NB, MB, e0, e1, e2, e3, e8, e9, e10, e11, show ¬ (0 : Int) < lo by omega]
      refine ⟨_, _, _, rfl, _, rfl, ?_, ?_, r.up, hd3, ?_⟩
      · simp only [ups_at, ↓reduceIte, Nat.reduceEqDiff]; exact e10
      · simp only [ups_at, ↓reduceIte, Nat.reduceEqDiff]; exact e11
      · simp only [ups_at, ↓reduceIte, Nat.reduceEqDiff]; exact ⟨e0, e1, e2, e3, e8, e9⟩
    · obtain ⟨lm, hlm⟩ : ∃ lm, lm = lo - 1 := ⟨_, rfl⟩
      have hc1 : (lo : Int) - 1 = (lm : Int) := by omega
      have rl := cU_at (d := d3) (i := lm) (by omega)
      cases hl : ltInt d3[lm]! d3[pv]! with
      | true =>
        simp -dsimp (maxSteps := 4000000) (disch := first | omega | assumption | (simp only [FB, Nat.reduceAdd]; done) | (simp only [LB]; omega)) only [EB, ↓reduceIte, WB, Nat.reduceSub, Nat.reduceAdd, Int.reduceEq, Int.reduceNe, Int.reduceLT, Int.reduceLE, Int.reduceAdd, Int.reduceSub, Int.reduceMul, Int.reduceNeg, Int.reduceToNat, Nat.reduceEqDiff, Nat.reduceLT, Nat.reduceLeDiff, Nat.reduceMul, List.replicate, reduceCtorEq, RB, Nat.reduceEqDiff, TB, NB, MB, e0, e1, e2, e3, e8, e9, e10, e11, show (0 : Int) < lo by omega, wrap64, hc1, show (lm : Int) < N by omega, show (pv : Int) < N by omega, indexAddr_slice und25 size27, load_one agg27, hqd, rv, rl, less46, hl]
        refine ⟨_, _, _, rfl, _, rfl, ?_, ?_, r.up, hd3, ?_⟩
        · simp only [ups_at, ↓reduceIte, Nat.reduceEqDiff]; exact e10
        · simp only [ups_at, ↓reduceIte, Nat.reduceEqDiff]; exact e11
        · simp only [ups_at, ↓reduceIte, Nat.reduceEqDiff]; exact ⟨e0, e1, e2, e3, e8, e9⟩
      | false =>
        simp -dsimp (maxSteps := 4000000) (disch := first | omega | assumption | (simp only [FB, Nat.reduceAdd]; done) | (simp only [LB]; omega)) only [EB, ↓reduceIte, WB, Nat.reduceSub, Nat.reduceAdd, Int.reduceEq, Int.reduceNe, Int.reduceLT, Int.reduceLE, Int.reduceAdd, Int.reduceSub, Int.reduceMul, Int.reduceNeg, Int.reduceToNat, Nat.reduceEqDiff, Nat.reduceLT, Nat.reduceLeDiff, Nat.reduceMul, List.replicate, reduceCtorEq, RB, Nat.reduceEqDiff, TB, NB, MB, e0, e1, e2, e3, e8, e9, e10, e11, show (0 : Int) < lo by omega, wrap64, hc1, show (lm : Int) < N by omega, show (pv : Int) < N by omega, indexAddr_slice und25 size27, load_one agg27, hqd, rv, rl, less46, hl]
        have r4 := r.up
        refine parteq68 q sp c d3 lo hi pv N hd3 hv1 hv2 hhi (by omega) _ r4.at_ (Nat.lt_of_lt_of_le r4.lt r4.le) _ fun a' ha hs => ?_
        obtain ⟨n', h', dd', rfl, hn', r'⟩ := r4.call ha
        obtain ⟨g1, g2, g3, g4, g5⟩ := round_eq swo_ltInt (partitionEqual_holds ltInt) (d3 := d3) (d4 := (partitionEqual ltInt d3 lo hi pv).2) (mid := (partitionEqual ltInt d3 lo hi pv).1) hpos hv1 hv2 (by omega) hB3 (by rw [← hlm]; exact hl) rfl
        simp -dsimp (maxSteps := 4000000) (disch := first | omega | assumption | (simp only [FB, Nat.reduceAdd]; done) | (simp only [LB]; omega)) only [EB, ↓reduceIte, WB, Nat.reduceSub, Nat.reduceAdd, Int.reduceEq, Int.reduceNe, Int.reduceLT, Int.reduceLE, Int.reduceAdd, Int.reduceSub, Int.reduceMul, Int.reduceNeg, Int.reduceToNat, Nat.reduceEqDiff, Nat.reduceLT, Nat.reduceLeDiff, Nat.reduceMul, List.replicate, reduceCtorEq, TB, NB, MB, e0, e1, e2, e3, e8, e9, e10, e11]
        refine ⟨trivial, hi - (partitionEqual ltInt d3 lo hi pv).1, by omega, _, hi, lim1, wb, wp, _, _, _, _, _, rfl, g2, hhi, by omega, hla, hlb, g4, fun R x1 x2 => by obtain ⟨y1, y2⟩ := g5 R x1 x2; exact hgo3 R y1 y2, rfl, rfl, r', hs, ?_⟩
        simp only [ups_at, ↓reduceIte, Nat.reduceEqDiff]
        exact ⟨e0, (by first | trivial | rfl | omega), e2, e3, e8, e9⟩
  clear e0 e1 e2 e3 e8 e9 e10 e11 e r hqd hqn1
  rintro _ _ _ ⟨rfl, n4, h4, dd4, rfl, e, rfl, e10, e11, r, -, e0, e1, e2, e3, e8, e9⟩
  -- parted
  obtain ⟨g8, hg8⟩ : ∃ g8, g8 = L / 8 := ⟨_, rfl⟩
  have hb8 : (L : Int).tdiv 8 = (g8 : Int) := by rw [Int.tdiv_eq_ediv_of_nonneg (by omega)]; omega
  have hb8' : (L : Int) / 8 = (g8 : Int) := by omega
  simp -dsimp (maxSteps := 4000000) (disch := first | omega | assumption | (simp only [FB, Nat.reduceAdd]; done) | (simp only [LB]; omega)) only [EB, ↓reduceIte, WB, Nat.reduceSub, Nat.reduceAdd, Int.reduceEq, Int.reduceNe, Int.reduceLT, Int.reduceLE, Int.reduceAdd, Int.reduceSub, Int.reduceMul, Int.reduceNeg, Int.reduceToNat, Nat.reduceEqDiff, Nat.reduceLT, Nat.reduceLeDiff, Nat.reduceMul, List.replicate, reduceCtorEq, TB, NB, MB, e0, e1, e2, e3, e8, e9, e10, e11]
  refine part69 q sp c d3 lo hi pv N hd3 hv1 hv2 hhi (by omega) _ r.at_ (Nat.lt_of_lt_of_le r.lt r.le) _ fun a' ap ha hs => ?_
  obtain ⟨n5, h5, dd5, rfl, hn5, r5⟩ := r.call ha
  obtain ⟨mid, hmid⟩ : ∃ mid, mid = (partition ltInt d3 lo hi pv).1 := ⟨_, rfl⟩
  obtain ⟨d4, hd4⟩ : ∃ d4, d4 = (partition ltInt d3 lo hi pv).2.2 := ⟨_, rfl⟩
  obtain ⟨g1, g2, g3, g4, g5, g6, g7⟩ := round_part swo_ltInt (partition_holds ltInt) (d3 := d3) (d4 := d4) (mid := mid) (ap := (partition ltInt d3 lo hi pv).2.1) hv1 hv2 (by omega) hB3 (by rw [hmid, hd4])
  rw [← hmid]
  rw [← hd4] at r5 hs
  have hm1 : (mid : Int) - (lo : Int) = ((mid - lo : Nat) : Int) := by omega
  have hm2 : (hi : Int) - (mid : Int) = ((hi - mid : Nat) : Int) := by omega
  have hm3 : (mid : Int) + 1 = ((mid + 1 : Nat) : Int) := by omega
  by_cases hside : mid - lo < hi - mid
  · simp -dsimp (maxSteps := 4000000) (disch := first | omega | assumption | (simp only [FB, Nat.reduceAdd]; done) | (simp only [LB]; omega)) only [EB, ↓reduceIte, WB, Nat.reduceSub, Nat.reduceAdd, Int.reduceEq, Int.reduceNe, Int.reduceLT, Int.reduceLE, Int.reduceAdd, Int.reduceSub, Int.reduceMul, Int.reduceNeg, Int.reduceToNat, Nat.reduceEqDiff, Nat.reduceLT, Nat.reduceLeDiff, Nat.reduceMul, List.replicate, reduceCtorEq, TB, NB, MB, e0, e1, e2, e3, e8, e9, e10, e11, wrap64, hb8, hb8', hm1, hm2, show ((mid - lo : Nat) : Int) < ((hi - mid : Nat) : Int) by omega]
    refine ih (mid - lo) (by omega) d4 lo mid lim1 _ _ rfl g1 (by omega) hs hla hlb g4 r5.at_ (Nat.lt_of_lt_of_le r5.lt r5.le) fun a' L' q1 q2 ha => ?_
    obtain ⟨n6, h6, dd6, rfl, hn6, r6⟩ := r5.call ha
    obtain ⟨w1, w2⟩ := g6 L' q1 q2
    simp -dsimp (maxSteps := 4000000) (disch := first | omega | assumption | (simp only [FB, Nat.reduceAdd]; done) | (simp only [LB]; omega)) only [EB, ↓reduceIte, WB, Nat.reduceSub, Nat.reduceAdd, Int.reduceEq, Int.reduceNe, Int.reduceLT, Int.reduceLE, Int.reduceAdd, Int.reduceSub, Int.reduceMul, Int.reduceNeg, Int.reduceToNat, Nat.reduceEqDiff, Nat.reduceLT, Nat.reduceLeDiff, Nat.reduceMul, List.replicate, reduceCtorEq, TB, NB, MB, e0, e1, e2, e3, e8, e9, e10, e11, wrap64, hm3]
    refine ⟨trivial, hi - (mid + 1), by omega, mid + 1, hi, lim1, decide ((g8 : Int) ≤ ((mid - lo : Nat) : Int)), ap, L', _, _, _, _, rfl, by omega, hhi, by omega, hla, hlb, w1, fun R x1 x2 => by obtain ⟨y1, y2⟩ := w2 R x1 x2; exact hgo3 R y1 y2, rfl, rfl, r6, by rw [q1.1]; exact hs, ?_⟩
    simp only [ups_at, ↓reduceIte, Nat.reduceEqDiff]
    exact ⟨e0, (by first | trivial | rfl | omega), e2, e3, (by first | trivial | rfl | omega), (by first | trivial | rfl | omega)⟩
  · simp -dsimp (maxSteps := 4000000) (disch := first | omega | assumption | (simp only [FB, Nat.reduceAdd]; done) | (simp only [LB]; omega)) only [EB, ↓reduceIte, WB, Nat.reduceSub, Nat.reduceAdd, Int.reduceEq, Int.reduceNe, Int.reduceLT, Int.reduceLE, Int.reduceAdd, Int.reduceSub, Int.reduceMul, Int.reduceNeg, Int.reduceToNat, Nat.reduceEqDiff, Nat.reduceLT, Nat.reduceLeDiff, Nat.reduceMul, List.replicate, reduceCtorEq, TB, NB, MB, e0, e1, e2, e3, e8, e9, e10, e11, wrap64, hb8, hb8', hm1, hm2, hm3, show ¬ ((mid - lo : Nat) : Int) < ((hi - mid : Nat) : Int) by omega]
    refine ih (hi - (mid + 1)) (by omega) d4 (mid + 1) hi lim1 _ _ rfl (by omega) hhi hs hla hlb g5 r5.at_ (Nat.lt_of_lt_of_le r5.lt r5.le) fun a' L' q1 q2 ha => ?_
    obtain ⟨n6, h6, dd6, rfl, hn6, r6⟩ := r5.call ha
    obtain ⟨w1, w2⟩ := g7 L' q1 q2
    simp -dsimp (maxSteps := 4000000) (disch := first | omega | assumption | (simp only [FB, Nat.reduceAdd]; done) | (simp only [LB]; omega)) only [EB, ↓reduceIte, WB, Nat.reduceSub, Nat.reduceAdd, Int.reduceEq, Int.reduceNe, Int.reduceLT, Int.reduceLE, Int.reduceAdd, Int.reduceSub, Int.reduceMul, Int.reduceNeg, Int.reduceToNat, Nat.reduceEqDiff, Nat.reduceLT, Nat.reduceLeDiff, Nat.reduceMul, List.replicate, reduceCtorEq, TB, NB, MB, e0, e1, e2, e3, e8, e9, e10, e11, wrap64, hm3]
    refine ⟨trivial, mid - lo, by omega, lo, mid, lim1, decide ((g8 : Int) ≤ ((hi - mid : Nat) : Int)), ap, L', _, _, _, _, rfl, by omega, by omega, by omega, hla, hlb, w1, fun R x1 x2 => by obtain ⟨y1, y2⟩ := w2 R x1 x2; exact hgo3 R y1 y2, rfl, rfl, r6, by rw [q1.1]; exact hs, ?_⟩
    simp only [ups_at, ↓reduceIte, Nat.reduceEqDiff]
    exact ⟨e0, e1, (by first | trivial | rfl | omega), e3, (by first | trivial | rfl | omega), (by first | trivial | rfl | omega)⟩
/-- A row of numbers, sorted. -/
theorem sort51 (q N c : Nat) (sp : Option Nat) (hN : N < 65536) (d : Array Int) (hd : d.size = N) (a : AW) (hq : look q a.heap = some (.cells (cU d) true)) (hqn : q < a.next) (K : Value → AW → Prop)
    (hK : ∀ a' d', PermIn 0 N d d' → SortedIn ltInt 0 N d' → Aft a a' q d d' → K (.tuple #[]) a') : WCall Try.prog GC 51 [.slice (some ⟨q, 0, sp⟩) N c] a K := by
  rw [call_env Try.func51 rfl Try.ntmps51 rfl rfl (by simp)]
  have l60 := fun a K => len60 N hN a K
  have hb := bits_bd N hN
  simp -dsimp (maxSteps := 4000000) (disch := first | omega | assumption | (simp only [FB, Nat.reduceAdd]; done) | (simp only [LB]; omega)) only [EB, ↓reduceIte, WB, Nat.reduceSub, Nat.reduceAdd, Int.reduceEq, Int.reduceNe, Int.reduceLT, Int.reduceLE, Int.reduceAdd, Int.reduceSub, Int.reduceMul, Int.reduceNeg, Int.reduceToNat, Nat.reduceEqDiff, Nat.reduceLT, Nat.reduceLeDiff, Nat.reduceMul, List.replicate, reduceCtorEq, TB, NB, MB, op_conv_int und3 und73, conv_int und3 und73, wrapu64, l60]
  refine pdq59 q N c sp hN N d 0 N (bitsLen N : Nat) ⟨a.next, a.heap, a.next, []⟩ _ rfl (Nat.zero_le _) (Nat.le_refl _) hd (by omega) (by omega) (.inl rfl) hq hqn fun a' d' q1 q2 ha => ?_
  obtain ⟨n', h', dd', rfl, hn', r'⟩ := (Row.start hq hqn).call ha
  simp -dsimp (maxSteps := 4000000) (disch := first | omega | assumption | (simp only [FB, Nat.reduceAdd]; done) | (simp only [LB]; omega)) only [EB, ↓reduceIte, WB, Nat.reduceSub, Nat.reduceAdd, Int.reduceEq, Int.reduceNe, Int.reduceLT, Int.reduceLE, Int.reduceAdd, Int.reduceSub, Int.reduceMul, Int.reduceNeg, Int.reduceToNat, Nat.reduceEqDiff, Nat.reduceLT, Nat.reduceLeDiff, Nat.reduceMul, List.replicate, reduceCtorEq, TB, NB, MB, ]
  obtain ⟨a', e1, ha⟩ := r'.leave (bs := a.base) (ds0 := a.dirty) (vs := []) rfl
  rw [e1]
  exact hK a' d' q1 q2 ha
end Go.Proofs.YtlbmjpmonaekgaaAM
