/- Chapter 14: a place in a row. -/
import Derived.Test.YtlbmjpmonaekgaaV1
namespace Go.Proofs.YtlbmjpmonaekgaaAM
open Go Go.RowKit
set_option linter.unusedVariables false
set_option linter.unusedSimpArgs false
set_option maxRecDepth 10000
set_option maxHeartbeats 4000000

theorem less46E (x y : Int) (a : AW) (K) : WCall Try.prog GE 46 [.int .u32 x, .int .u32 y] a K = K (.bool (decide (x < y))) a := by
  have h56 : ∀ (z : Int) (a : AW) (K), WCall Try.prog GE 56 [.int .u32 z] a K = K (.bool false) a := by
    intro z a K
    refine call_eq ?_ K
    rw [call_env Try.func56 rfl Try.ntmps56 rfl rfl (by simp)]
    simp -dsimp (maxSteps := 4000000) (disch := first | omega | assumption | (simp only [FB, Nat.reduceAdd]; done) | (simp only [LB]; omega)) only [EB, ↓reduceIte, WB, Nat.reduceSub, Nat.reduceAdd, Int.reduceEq, Int.reduceNe, Int.reduceLT, Int.reduceLE, Int.reduceAdd, Int.reduceSub, Int.reduceMul, Int.reduceNeg, Int.reduceToNat, Nat.reduceEqDiff, Nat.reduceLT, Nat.reduceLeDiff, Nat.reduceMul, List.replicate, reduceCtorEq, TB, NB, MB, eq_self]
    exact ⟨(by first | trivial | rfl | omega), (by first | trivial | rfl | omega)⟩
  refine call_eq ?_ K
  rw [call_env Try.func46 rfl Try.ntmps46 rfl rfl (by simp)]
  simp -dsimp (maxSteps := 4000000) (disch := first | omega | assumption | (simp only [FB, Nat.reduceAdd]; done) | (simp only [LB]; omega)) only [EB, ↓reduceIte, WB, Nat.reduceSub, Nat.reduceAdd, Int.reduceEq, Int.reduceNe, Int.reduceLT, Int.reduceLE, Int.reduceAdd, Int.reduceSub, Int.reduceMul, Int.reduceNeg, Int.reduceToNat, Nat.reduceEqDiff, Nat.reduceLT, Nat.reduceLeDiff, Nat.reduceMul, List.replicate, reduceCtorEq, TB, NB, MB, h56]
  exact ⟨(by first | trivial | rfl | omega), (by first | trivial | rfl | omega)⟩
theorem nan47 (x : Int) (a : AW) (K) : WCall Try.prog GE 47 [.int .u32 x] a K = K (.bool false) a := by
  refine call_eq ?_ K
  rw [call_env Try.func47 rfl Try.ntmps47 rfl rfl (by simp)]
  simp -dsimp (maxSteps := 4000000) (disch := first | omega | assumption | (simp only [FB, Nat.reduceAdd]; done) | (simp only [LB]; omega)) only [EB, ↓reduceIte, WB, Nat.reduceSub, Nat.reduceAdd, Int.reduceEq, Int.reduceNe, Int.reduceLT, Int.reduceLE, Int.reduceAdd, Int.reduceSub, Int.reduceMul, Int.reduceNeg, Int.reduceToNat, Nat.reduceEqDiff, Nat.reduceLT, Nat.reduceLeDiff, Nat.reduceMul, List.replicate, reduceCtorEq, TB, NB, MB, eq_self]
  exact ⟨(by first | trivial | rfl | omega), (by first | trivial | rfl | omega)⟩
/-- How many stand before. -/
def cntL : List Int → Int → Nat
  | [], _ => 0
  | y :: r, x => if y < x then cntL r x + 1 else 0
theorem cntL_cons {y x : Int} {r : List Int} : cntL (y :: r) x = if y < x then cntL r x + 1 else 0 := rfl
theorem cntL_le : ∀ (xs : List Int) (x : Int), cntL xs x ≤ xs.length
  | [], _ => Nat.le_refl _
  | y :: r, x => by
    unfold cntL
    split
    · have := cntL_le r x; simp only [List.length_cons]; omega
    · simp
theorem cntL_is {x : Int} : ∀ (xs : List Int) (k : Nat), k ≤ xs.length → (∀ j, (h : j < xs.length) → j < k → xs[j] < x) → (∀ h : k < xs.length, ¬ xs[k] < x) → cntL xs x = k
  | [], k, hk, _, _ => by simp at hk; rw [hk]; rfl
  | y :: r, 0, _, _, h => by
    unfold cntL
    rw [if_neg]
    exact h (by simp)
  | y :: r, k + 1, hk, h1, h2 => by
    rw [cntL_cons, if_pos (show y < x from h1 0 (by simp) (by omega))]
    rw [cntL_is r k (by simpa using hk) (fun j hj hjk => h1 (j + 1) (by simpa using hj) (by omega)) (fun h => h2 (by simpa using h))]
theorem cntL_lt {x : Int} : ∀ (xs : List Int) (j : Nat) (h : j < xs.length), j < cntL xs x → xs[j] < x
  | [], j, h, _ => by simp at h
  | y :: r, j, h, hj => by
    unfold cntL at hj
    split at hj
    · cases j with
      | zero => assumption
      | succ j => exact cntL_lt r j (by simpa using h) (by omega)
    · omega
theorem cntL_at {x : Int} : ∀ (xs : List Int) (h : cntL xs x < xs.length), ¬ xs[cntL xs x] < x
  | [], h => by simp at h
  | y :: r, h => by
    by_cases hy : y < x
    · have e : cntL (y :: r) x = cntL r x + 1 := by rw [cntL_cons, if_pos hy]
      have h2 : cntL r x < r.length := by rw [e] at h; simpa using h
      have := cntL_at r h2
      simp only [e, List.getElem_cons_succ]
      exact this
    · have e : cntL (y :: r) x = 0 := by rw [cntL_cons, if_neg hy]
      simp only [e, List.getElem_cons_zero]
      exact hy
theorem cntL_mem {x : Int} {xs : List Int} (hs : xs.Pairwise (· < ·)) : x ∈ xs ↔ ∃ h : cntL xs x < xs.length, xs[cntL xs x] = x := by
  constructor
  · intro hx
    obtain ⟨j, hj, e⟩ := List.getElem_of_mem hx
    have : cntL xs x = j := by
      refine cntL_is xs j (Nat.le_of_lt hj) (fun i hi hij => ?_) (fun h => by rw [e]; omega)
      have := List.pairwise_iff_getElem.1 hs i j hi hj hij
      rw [e] at this; exact this
    subst this
    exact ⟨hj, e⟩
  · rintro ⟨h, e⟩
    exact e ▸ List.getElem_mem h
theorem rowU_at {xs : List Int} {i : Nat} (h : i < xs.length) : (xs.map (Value.int .u32))[i]? = some (.int .u32 xs[i]) := by
  rw [List.getElem?_map, List.getElem?_eq_getElem h]; rfl
/-- A row that is read. -/
def RowR (h : List (Nat × Blk)) (n : Nat) (v : Value) (xs : List Int) : Prop := ∃ po c, v = .slice po xs.length c ∧ (xs ≠ [] → ∃ b o sp rw_ c0, b < n ∧ po = some ⟨b, o, sp⟩ ∧ look b h = some (.cells c0 rw_) ∧ ∀ i, (hi : i < xs.length) → c0[o + i]? = some (.int .u32 xs[i]))
theorem RowIs.reads {h : List (Nat × Blk)} {b : Nat} {v : Value} {xs : List Int} {n : Nat} (hr : RowIs h b v xs) (hn : b < n) : RowR h n v xs := by
  rcases hr with ⟨rfl, rfl⟩ | ⟨sp, rfl, hb, -⟩
  · exact ⟨none, 0, rfl, fun h => absurd rfl h⟩
  · exact ⟨_, _, rfl, fun _ => ⟨_, _, _, _, _, hn, rfl, hb, fun i hi => by rw [Nat.zero_add]; exact rowU_at hi⟩⟩
theorem search32 {v : Value} {xs : List Int} {a : AW} (hr : RowR a.heap a.next v xs) (hs : xs.Pairwise (· < ·)) (hl : xs.length ≤ 60000) (x : Int) (K) :
    WCall Try.prog GE 32 [v, .int .u32 x] a K = K (.tuple #[.int .i64 (cntL xs x), .bool (decide (x ∈ xs))]) a := by
  refine call_eq ?_ K
  rw [call_env Try.func32 rfl Try.ntmps32 rfl rfl (by simp)]
  obtain ⟨po, c, rfl, hrow⟩ := hr
  obtain ⟨N, hN⟩ : ∃ N, N = xs.length := ⟨_, rfl⟩
  rw [← hN] at hl ⊢
  simp -dsimp (maxSteps := 4000000) (disch := first | omega | assumption | (simp only [FB, Nat.reduceAdd]; done) | (simp only [LB]; omega)) only [EB, ↓reduceIte, WB, Nat.reduceSub, Nat.reduceAdd, Int.reduceEq, Int.reduceNe, Int.reduceLT, Int.reduceLE, Int.reduceAdd, Int.reduceSub, Int.reduceMul, Int.reduceNeg, Int.reduceToNat, Nat.reduceEqDiff, Nat.reduceLT, Nat.reduceLeDiff, Nat.reduceMul, List.replicate, reduceCtorEq, TB, NB, MB, ]
  refine loop_inv (fun k t w => ∃ (lo hi : Nat), ∃ e, k = hi - lo ∧ lo ≤ hi ∧ hi ≤ N ∧ (∀ j, (h : j < xs.length) → j < lo → xs[j] < x) ∧ (∀ j, (h : j < xs.length) → hi ≤ j → ¬ xs[j] < x) ∧ w = ⟨a.next, a.heap, a.next, []⟩ ∧ t = TT 54 e ∧ e 0 = .slice po N c ∧ e 1 = .int .u32 x ∧ e 6 = .int .i64 N ∧ e 7 = .int .i64 lo ∧ e 8 = .int .i64 hi)
    ⟨0, N, _, rfl, Nat.zero_le _, Nat.le_refl _, fun j h hj => absurd hj (Nat.not_lt_zero _), fun j h hj => absurd h (by omega), rfl, rfl, rfl, rfl, rfl, rfl, rfl⟩ ?_
  rintro k t w ⟨lo, hi, e, rfl, hlo, hhi, h1, h2, rfl, rfl, e0, e1, e6, e7, e8⟩
  by_cases hlt : lo < hi
  · obtain ⟨m, hm⟩ : ∃ m : Nat, m = (lo + hi) / 2 := ⟨_, rfl⟩
    have hml : m < xs.length := by omega
    obtain ⟨b, o, sp, rw_, c0, hbn, rfl, hb, hat⟩ := hrow (by intro e; rw [e] at hN; simp at hN; omega)
    have hc := hat _ hml
    have hsum : (lo : Int) + (hi : Int) = ((lo + hi : Nat) : Int) := by omega
    have hf : ((lo + hi : Nat) : Int).fdiv (2 ^ (min 1 (IntKind.bits .u64))) = (m : Int) := by
      show ((lo + hi : Nat) : Int).fdiv 2 = _
      rw [Int.fdiv_eq_ediv_of_nonneg _ (by omega)]; omega
    by_cases hx : xs[m] < x
    · simp -dsimp (maxSteps := 4000000) (disch := first | omega | assumption | (simp only [FB, Nat.reduceAdd]; done) | (simp only [LB]; omega)) only [EB, ↓reduceIte, WB, Nat.reduceSub, Nat.reduceAdd, Int.reduceEq, Int.reduceNe, Int.reduceLT, Int.reduceLE, Int.reduceAdd, Int.reduceSub, Int.reduceMul, Int.reduceNeg, Int.reduceToNat, Nat.reduceEqDiff, Nat.reduceLT, Nat.reduceLeDiff, Nat.reduceMul, List.replicate, reduceCtorEq, TB, NB, MB, e0, e1, e6, e7, e8, show (lo : Int) < hi by omega, wrap64, wrapu64, op_conv_int und3 und73, op_conv_int und73 und3, conv_int und3 und73, conv_int und73 und3, hsum, bin_shr, hf, indexAddr_slice und25 size27, load_one agg27, hb, hc, less46E, hx]
      have hm1 : ((m : Int) + 1) = ((m + 1 : Nat) : Int) := by omega
      refine ⟨trivial, hi - (m + 1), by omega, m + 1, hi, _, rfl, by omega, hhi, fun j h hj => ?_, h2, trivial, rfl, ?_⟩
      · rcases Nat.lt_or_ge j m with hjm | hjm
        · have := List.pairwise_iff_getElem.1 hs j m h hml hjm
          omega
        · obtain rfl : j = m := by omega
          exact hx
      · simp only [ups_at, ↓reduceIte, Nat.reduceEqDiff]
        exact ⟨e0, e1, e6, by rw [← hm1], e8⟩
    · simp -dsimp (maxSteps := 4000000) (disch := first | omega | assumption | (simp only [FB, Nat.reduceAdd]; done) | (simp only [LB]; omega)) only [EB, ↓reduceIte, WB, Nat.reduceSub, Nat.reduceAdd, Int.reduceEq, Int.reduceNe, Int.reduceLT, Int.reduceLE, Int.reduceAdd, Int.reduceSub, Int.reduceMul, Int.reduceNeg, Int.reduceToNat, Nat.reduceEqDiff, Nat.reduceLT, Nat.reduceLeDiff, Nat.reduceMul, List.replicate, reduceCtorEq, TB, NB, MB, e0, e1, e6, e7, e8, show (lo : Int) < hi by omega, wrap64, wrapu64, op_conv_int und3 und73, op_conv_int und73 und3, conv_int und3 und73, conv_int und73 und3, hsum, bin_shr, hf, indexAddr_slice und25 size27, load_one agg27, hb, hc, less46E, hx]
      refine ⟨trivial, m - lo, by omega, lo, m, _, rfl, by omega, by omega, h1, fun j h hj => ?_, trivial, rfl, ?_⟩
      · rcases Nat.lt_or_ge m j with hjm | hjm
        · have := List.pairwise_iff_getElem.1 hs m j hml h hjm
          omega
        · obtain rfl : j = m := by omega
          exact hx
      · simp only [ups_at, ↓reduceIte, Nat.reduceEqDiff]
        exact ⟨e0, e1, e6, e7, trivial⟩
  · obtain rfl : lo = hi := by omega
    have hcnt : cntL xs x = lo := cntL_is xs lo (by omega) (fun j h hj => h1 j h hj) (fun h => h2 lo h (Nat.le_refl _))
    by_cases hlN : lo < N
    · have hml : lo < xs.length := by omega
      obtain ⟨b, o, sp, rw_, c0, hbn, rfl, hb, hat⟩ := hrow (by intro e; rw [e] at hN; simp at hN; omega)
      have hc := hat _ hml
      by_cases hx : xs[lo] = x
      · have hin : x ∈ xs := hx ▸ List.getElem_mem hml
        simp -dsimp (maxSteps := 4000000) (disch := first | omega | assumption | (simp only [FB, Nat.reduceAdd]; done) | (simp only [LB]; omega)) only [EB, ↓reduceIte, WB, Nat.reduceSub, Nat.reduceAdd, Int.reduceEq, Int.reduceNe, Int.reduceLT, Int.reduceLE, Int.reduceAdd, Int.reduceSub, Int.reduceMul, Int.reduceNeg, Int.reduceToNat, Nat.reduceEqDiff, Nat.reduceLT, Nat.reduceLeDiff, Nat.reduceMul, List.replicate, reduceCtorEq, TB, NB, MB, e0, e1, e6, e7, e8, Int.lt_irrefl, show (lo : Int) < N by omega, indexAddr_slice und25 size27, load_one agg27, hb, hc, hx, eq_self]
        simp [hcnt, hin]
      · have hin : ¬ x ∈ xs := by
          rw [cntL_mem hs]
          rintro ⟨h, e⟩
          simp only [hcnt] at e
          exact hx e
        simp -dsimp (maxSteps := 4000000) (disch := first | omega | assumption | (simp only [FB, Nat.reduceAdd]; done) | (simp only [LB]; omega)) only [EB, ↓reduceIte, WB, Nat.reduceSub, Nat.reduceAdd, Int.reduceEq, Int.reduceNe, Int.reduceLT, Int.reduceLE, Int.reduceAdd, Int.reduceSub, Int.reduceMul, Int.reduceNeg, Int.reduceToNat, Nat.reduceEqDiff, Nat.reduceLT, Nat.reduceLeDiff, Nat.reduceMul, List.replicate, reduceCtorEq, TB, NB, MB, e0, e1, e6, e7, e8, Int.lt_irrefl, show (lo : Int) < N by omega, indexAddr_slice und25 size27, load_one agg27, hb, hc, hx, nan47]
        simp [hcnt, hin]
    · have hin : ¬ x ∈ xs := by
        rw [cntL_mem hs]
        rintro ⟨h, e⟩
        omega
      simp -dsimp (maxSteps := 4000000) (disch := first | omega | assumption | (simp only [FB, Nat.reduceAdd]; done) | (simp only [LB]; omega)) only [EB, ↓reduceIte, WB, Nat.reduceSub, Nat.reduceAdd, Int.reduceEq, Int.reduceNe, Int.reduceLT, Int.reduceLE, Int.reduceAdd, Int.reduceSub, Int.reduceMul, Int.reduceNeg, Int.reduceToNat, Nat.reduceEqDiff, Nat.reduceLT, Nat.reduceLeDiff, Nat.reduceMul, List.replicate, reduceCtorEq, TB, NB, MB, e0, e1, e6, e7, e8, Int.lt_irrefl, show ¬ (lo : Int) < N by omega]
      simp [hcnt, hin]
end Go.Proofs.YtlbmjpmonaekgaaAM
