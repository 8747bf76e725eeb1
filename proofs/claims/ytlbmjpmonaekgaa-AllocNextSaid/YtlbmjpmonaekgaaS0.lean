/- Chapter 14: a row that is sorted in place. -/
import Derived.Test.YtlbmjpmonaekgaaD1
import Derived.Sort.LotD3
import Derived.Sort.LotD1
namespace Go.Proofs.YtlbmjpmonaekgaaAM
open Go Go.RowKit Go.Sort
set_option linter.unusedVariables false
set_option linter.unusedSimpArgs false
set_option maxRecDepth 10000
set_option maxHeartbeats 4000000

abbrev ltU : Int → Int → Bool := ltInt
/-- The cells of a row of numbers. -/
def cU (d : Array Int) : List Value := d.toList.map (Value.int .u32)
theorem cU_len (d : Array Int) : (cU d).length = d.size := by simp [cU]
theorem cU_at {d : Array Int} {i : Nat} (h : i < d.size) : (cU d)[i]? = some (.int .u32 d[i]!) := by
  unfold cU
  rw [List.getElem?_map, List.getElem?_eq_getElem (by simpa using h)]
  simp [getElem!_pos d i h]
theorem cU_set (d : Array Int) (i : Nat) (x : Int) : (cU d).set i (.int .u32 x) = cU (d.setIfInBounds i x) := by
  unfold cU
  rw [Array.toList_setIfInBounds, List.map_set]
theorem cU_swap (d : Array Int) (i j : Nat) : ((cU d).set i (.int .u32 d[j]!)).set j (.int .u32 d[i]!) = cU (swp d i j) := by
  rw [cU_set, cU_set]; rfl
theorem cell_set (c : List Value) (i : Nat) (v : Value) (h : i < c.length) : c.take i ++ (v :: c.drop (i + 1)) = c.set i v := by
  rw [List.set_eq_take_append_cons_drop, if_pos h]
theorem put_twice {i : Nat} {x y : Blk} : ∀ {h : List (Nat × Blk)}, putAt i x (putAt i y h) = putAt i x h := by
  intro h
  induction h with
  | nil => rfl
  | cons p r ih =>
    obtain ⟨j, c⟩ := p
    by_cases hij : i = j
    · subst hij; rw [put_self, put_self, put_self]
    · rw [put_miss hij, put_miss hij, put_miss hij, ih]
theorem soil_one {n b : Nat} (h : b < n) : soilW n [] b = [b] := by simp [soilW, h]
theorem soil_same {n b : Nat} (h : b < n) : soilW n [b] b = [b] := by simp [soilW, h]
theorem leave_soil {before : AW} {vs : List Value} {n h bs} {b : Nat} : leaveA before vs ⟨n, h, bs, [b]⟩ = (vs, ⟨n, h, before.base, soilW before.base before.dirty b⟩) := rfl
/-- Behind a call that turns a row. -/
def Aft (a a' : AW) (q : Nat) (d d' : Array Int) : Prop :=
  (a' = a ∧ d' = d) ∨ (a'.base = a.base ∧ a'.dirty = soilW a.base a.dirty q ∧ a.next ≤ a'.next ∧ look q a'.heap = some (.cells (cU d') true) ∧ ∀ j, j < a.next → j ≠ q → look j a'.heap = look j a.heap)
/-- A frame that turns a row from below, as it stands. -/
structure Row (n0 : Nat) (h0 : List (Nat × Blk)) (q : Nat) (d0 d : Array Int) (n : Nat) (h : List (Nat × Blk)) (ds : List Nat) : Prop where
  le : n0 ≤ n
  lt : q < n0
  at_ : look q h = some (.cells (cU d) true)
  keep : ∀ j, j < n0 → j ≠ q → look j h = look j h0
  ds : (ds = [] ∧ d = d0) ∨ ds = [q]
theorem Row.start {n0 : Nat} {h0 : List (Nat × Blk)} {q : Nat} {d : Array Int} (hq : look q h0 = some (.cells (cU d) true)) (hlt : q < n0) : Row n0 h0 q d d n0 h0 [] :=
  ⟨Nat.le_refl _, hlt, hq, fun _ _ _ => rfl, .inl ⟨rfl, rfl⟩⟩
theorem Row.next {n0 : Nat} {h0 : List (Nat × Blk)} {q : Nat} {d0 d : Array Int} {n n' : Nat} {h h' : List (Nat × Blk)} {ds : List Nat} (r : Row n0 h0 q d0 d n h ds) (hn : n ≤ n') (hh : ∀ j, j < n0 → look j h' = look j h) : Row n0 h0 q d0 d n' h' ds :=
  ⟨Nat.le_trans r.le hn, r.lt, by rw [hh q r.lt]; exact r.at_, fun j h1 h2 => by rw [hh j h1]; exact r.keep j h1 h2, r.ds⟩
theorem Row.up {n0 : Nat} {h0 : List (Nat × Blk)} {q : Nat} {d0 d : Array Int} {n : Nat} {h : List (Nat × Blk)} {ds : List Nat} (r : Row n0 h0 q d0 d n h ds) : Row n0 h0 q d0 d (n + 1) h ds := r.next (Nat.le_succ _) fun _ _ => rfl
theorem look_put1 {q : Nat} {c : List Value} {h : List (Nat × Blk)} {b : Blk} (hq : look q h = some (.cells c true)) : look q (putAt q b h) = some b := by rw [look_wput_self, hq]; rfl
theorem Row.put {n0 : Nat} {h0 : List (Nat × Blk)} {q : Nat} {d0 d d' : Array Int} {n : Nat} {h : List (Nat × Blk)} {ds : List Nat} (r : Row n0 h0 q d0 d n h ds) {c : List Value} (hc : c = cU d') : Row n0 h0 q d0 d' n (putAt q (.cells c true) h) [q] :=
  ⟨r.le, r.lt, by rw [hc]; exact look_put1 r.at_, fun j h1 h2 => by rw [look_wput_ne h2]; exact r.keep j h1 h2, .inr rfl⟩
theorem Row.soil {n0 : Nat} {h0 : List (Nat × Blk)} {q : Nat} {d0 d : Array Int} {n : Nat} {h : List (Nat × Blk)} {ds : List Nat} (r : Row n0 h0 q d0 d n h ds) : soilW n0 ds q = [q] := by
  rcases r.ds with ⟨rfl, -⟩ | rfl
  · exact soil_one r.lt
  · exact soil_same r.lt
theorem Row.call {n0 : Nat} {h0 : List (Nat × Blk)} {q : Nat} {d0 d d' : Array Int} {n : Nat} {h : List (Nat × Blk)} {ds : List Nat} {a' : AW} (r : Row n0 h0 q d0 d n h ds) (ha : Aft ⟨n, h, n0, ds⟩ a' q d d') : ∃ n' h' ds', a' = ⟨n', h', n0, ds'⟩ ∧ n ≤ n' ∧ Row n0 h0 q d0 d' n' h' ds' := by
  rcases ha with ⟨rfl, rfl⟩ | ⟨h1, h2, h3, h4, h5⟩
  · exact ⟨_, _, _, rfl, Nat.le_refl _, r⟩
  · obtain ⟨n', h', b', ds'⟩ := a'
    simp only at h1 h2 h3 h4 h5
    subst h1 h2
    exact ⟨n', h', _, rfl, h3, Nat.le_trans r.le h3, r.lt, h4, fun j j1 j2 => by rw [h5 j (Nat.lt_of_lt_of_le j1 r.le) j2]; exact r.keep j j1 j2, .inr r.soil⟩
theorem Row.leave {n0 : Nat} {h0 : List (Nat × Blk)} {q : Nat} {d0 d : Array Int} {n bs : Nat} {h : List (Nat × Blk)} {ds ds0 : List Nat} (r : Row n0 h0 q d0 d n h ds) {vs : List Value} (hv : vs.all flat = true) :
    ∃ a', leaveA ⟨n0, h0, bs, ds0⟩ vs ⟨n, h, n0, ds⟩ = (vs, a') ∧ Aft ⟨n0, h0, bs, ds0⟩ a' q d0 d := by
  rcases r.ds with ⟨rfl, rfl⟩ | rfl
  · exact ⟨_, leave_flat hv, .inl ⟨rfl, rfl⟩⟩
  · exact ⟨_, leave_soil, .inr ⟨rfl, rfl, r.le, r.at_, r.keep⟩⟩
theorem nan56 (x : Int) (a : AW) (K) : WCall Try.prog GC 56 [.int .u32 x] a K = K (.bool false) a := by
  refine call_eq ?_ K
  rw [call_env Try.func56 rfl Try.ntmps56 rfl rfl (by simp)]
  simp -dsimp (maxSteps := 4000000) (disch := first | omega | assumption | (simp only [FB, Nat.reduceAdd]; done) | (simp only [LB]; omega)) only [EB, ↓reduceIte, WB, Nat.reduceSub, Nat.reduceAdd, Int.reduceEq, Int.reduceNe, Int.reduceLT, Int.reduceLE, Int.reduceAdd, Int.reduceSub, Int.reduceMul, Int.reduceNeg, Int.reduceToNat, Nat.reduceEqDiff, Nat.reduceLT, Nat.reduceLeDiff, Nat.reduceMul, List.replicate, reduceCtorEq, TB, NB, MB, eq_self]
  exact ⟨(by first | trivial | rfl | omega), (by first | trivial | rfl | omega)⟩
theorem less46 (x y : Int) (a : AW) (K) : WCall Try.prog GC 46 [.int .u32 x, .int .u32 y] a K = K (.bool (ltInt x y)) a := by
  refine call_eq ?_ K
  rw [call_env Try.func46 rfl Try.ntmps46 rfl rfl (by simp)]
  by_cases h : x < y
  · simp -dsimp (maxSteps := 4000000) (disch := first | omega | assumption | (simp only [FB, Nat.reduceAdd]; done) | (simp only [LB]; omega)) only [EB, ↓reduceIte, WB, Nat.reduceSub, Nat.reduceAdd, Int.reduceEq, Int.reduceNe, Int.reduceLT, Int.reduceLE, Int.reduceAdd, Int.reduceSub, Int.reduceMul, Int.reduceNeg, Int.reduceToNat, Nat.reduceEqDiff, Nat.reduceLT, Nat.reduceLeDiff, Nat.reduceMul, List.replicate, reduceCtorEq, TB, NB, MB, nan56, h]
    exact ⟨by simp [ltInt, h], (by first | trivial | rfl | omega)⟩
  · simp -dsimp (maxSteps := 4000000) (disch := first | omega | assumption | (simp only [FB, Nat.reduceAdd]; done) | (simp only [LB]; omega)) only [EB, ↓reduceIte, WB, Nat.reduceSub, Nat.reduceAdd, Int.reduceEq, Int.reduceNe, Int.reduceLT, Int.reduceLE, Int.reduceAdd, Int.reduceSub, Int.reduceMul, Int.reduceNeg, Int.reduceToNat, Nat.reduceEqDiff, Nat.reduceLT, Nat.reduceLeDiff, Nat.reduceMul, List.replicate, reduceCtorEq, TB, NB, MB, nan56, h]
    exact ⟨by simp [ltInt, h], (by first | trivial | rfl | omega)⟩
theorem soil_swap {n0 N q : Nat} {ds : List Nat} (hq : q < n0) (hN : q < N) (hs : soilW n0 ds q = [q]) : soilAll (soilAll ds n0 (soilW N [] q)) n0 (soilW N [] q) = [q] := by
  rw [soil_one hN]
  have h1 : soilAll ds n0 [q] = soilW n0 ds q := rfl
  rw [h1, hs]
  exact soil_same hq
theorem swap_cells {d : Array Int} {i j : Nat} (hi : i < d.size) (hj : j < d.size) : List.take j (List.take i (cU d) ++ Value.int .u32 d[j]! :: List.drop (i + 1) (cU d)) ++ Value.int .u32 d[i]! :: List.drop (j + 1) (List.take i (cU d) ++ Value.int .u32 d[j]! :: List.drop (i + 1) (cU d)) = cU (swp d i j) := by
  rw [cell_set _ i _ (by rw [cU_len]; exact hi), cell_set _ j _ (by rw [List.length_set, cU_len]; exact hj), cU_swap]
theorem rev66 (q : Nat) (sp : Option Nat) (c : Nat) (d : Array Int) (lo hi : Nat) (hlo : lo ≤ hi) (hhi : hi ≤ d.size) (hsz : d.size ≤ 1000000) (h0 : 0 < hi) (a : AW) (hq : look q a.heap = some (.cells (cU d) true)) (hqn : q < a.next) (K : Value → AW → Prop)
    (hK : ∀ a', Aft a a' q d (reverseRange d lo hi) → K (.tuple #[]) a') : WCall Try.prog GC 66 [.slice (some ⟨q, 0, sp⟩) d.size c, .int .i64 lo, .int .i64 hi] a K := by
  rw [call_env Try.func66 rfl Try.ntmps66 rfl rfl (by simp)]
  simp -dsimp (maxSteps := 4000000) (disch := first | omega | assumption | (simp only [FB, Nat.reduceAdd]; done) | (simp only [LB]; omega)) only [EB, ↓reduceIte, WB, Nat.reduceSub, Nat.reduceAdd, Int.reduceEq, Int.reduceNe, Int.reduceLT, Int.reduceLE, Int.reduceAdd, Int.reduceSub, Int.reduceMul, Int.reduceNeg, Int.reduceToNat, Nat.reduceEqDiff, Nat.reduceLT, Nat.reduceLeDiff, Nat.reduceMul, List.replicate, reduceCtorEq, TB, NB, MB, wrap64]
  refine loop_inv (fun k t w => ∃ (i j n : Nat) (dc : Array Int) (h : List (Nat × Blk)) (ds : List Nat), ∃ e, k = j - i ∧ j + 1 ≤ hi ∧ i ≤ hi ∧ dc.size = d.size ∧ reverseLoop i j dc = reverseRange d lo hi ∧ w = ⟨n, h, a.next, ds⟩ ∧ Row a.next a.heap q d dc n h ds ∧ t = TT 32 e ∧ e 0 = .slice (some ⟨q, 0, sp⟩) d.size c ∧ e 6 = .int .i64 i ∧ e 7 = .int .i64 j)
    ⟨lo, hi - 1, a.next, d, a.heap, [], _, rfl, by omega, hlo, rfl, rfl, rfl, .start hq hqn, rfl, rfl, rfl, by simp only [ups_at, ↓reduceIte, Nat.reduceEqDiff]; congr 1; omega⟩ ?_
  rintro k t w ⟨i, j, n, dc, h, ds, e, rfl, hj, hi2, hdc, hres, rfl, r, rfl, e0, e6, e7⟩
  by_cases hlt : i < j
  · have hqd := r.at_
    have hqlt := r.lt
    have hso := r.soil
    have hso2 := soil_same r.lt
    have ri := cU_at (d := dc) (i := i) (by omega)
    have rj := cU_at (d := dc) (i := j) (by omega)
    have hlen := cU_len dc
    have hqn1 : q < n + 1 := by have := r.le; omega
    simp -dsimp (maxSteps := 4000000) (disch := first | omega | assumption | (simp only [FB, Nat.reduceAdd]; done) | (simp only [LB]; omega)) only [EB, ↓reduceIte, WB, Nat.reduceSub, Nat.reduceAdd, Int.reduceEq, Int.reduceNe, Int.reduceLT, Int.reduceLE, Int.reduceAdd, Int.reduceSub, Int.reduceMul, Int.reduceNeg, Int.reduceToNat, Nat.reduceEqDiff, Nat.reduceLT, Nat.reduceLeDiff, Nat.reduceMul, List.replicate, reduceCtorEq, TB, NB, MB, e0, e6, e7, show (i : Int) < j by omega]
    refine code_draw [(0, 1), (0, 2), (0, 3), (0, 4), (0, 5), (0, 6), (0, 7), (0, 8), (0, 9), (0, 10), (0, 11), (1, 2), (1, 3), (1, 4), (1, 5), (1, 6), (1, 7), (1, 8), (1, 9), (1, 10), (1, 11), (2, 3), (2, 4), (2, 5), (2, 6), (2, 7), (2, 8), (2, 9), (2, 10), (2, 11), (2, 12), (2, 13), (3, 4), (3, 5), (3, 6), (3, 7), (3, 8), (3, 9), (3, 10), (3, 11), (3, 12), (3, 13), (4, 5), (4, 8), (4, 9), (4, 10), (4, 11), (5, 8), (5, 9), (5, 10), (5, 11), (6, 8), (6, 9), (6, 10), (6, 11), (7, 8), (7, 9), (7, 10), (7, 11), (8, 9)] (by decide +kernel) (by decide +kernel) ?_
    simp -dsimp (maxSteps := 4000000) (disch := first | omega | assumption | (simp only [FB, Nat.reduceAdd]; done) | (simp only [LB]; omega)) only [EB, ↓reduceIte, WB, Nat.reduceSub, Nat.reduceAdd, Int.reduceEq, Int.reduceNe, Int.reduceLT, Int.reduceLE, Int.reduceAdd, Int.reduceSub, Int.reduceMul, Int.reduceNeg, Int.reduceToNat, Nat.reduceEqDiff, Nat.reduceLT, Nat.reduceLeDiff, Nat.reduceMul, List.replicate, reduceCtorEq, RB, Nat.reduceEqDiff, TB, NB, MB, e0, e6, e7, show (i : Int) < d.size by omega, show (j : Int) < d.size by omega, indexAddr_slice und25 size27, load_one agg27, hqd, ri, rj, write_soil, hso, hqn1, wrap64]
    rw [swap_cells (by omega) (by omega), put_twice, soil_swap hqlt hqn1 hso]
    refine ⟨j - 1 - (i + 1), by omega, i + 1, j - 1, n + 1, swp dc i j, _, [q], _, rfl, by omega, by omega, by rw [size_swp]; exact hdc, ?_, rfl, r.up.put rfl, rfl, ?_⟩
    · rw [reverseLoop, if_pos hlt] at hres; exact hres
    · simp only [ups_at, ↓reduceIte, Nat.reduceEqDiff]
      exact ⟨e0, (by first | trivial | rfl | omega), by congr 1; omega⟩
  · rw [reverseLoop, if_neg hlt] at hres
    subst hres
    simp -dsimp (maxSteps := 4000000) (disch := first | omega | assumption | (simp only [FB, Nat.reduceAdd]; done) | (simp only [LB]; omega)) only [EB, ↓reduceIte, WB, Nat.reduceSub, Nat.reduceAdd, Int.reduceEq, Int.reduceNe, Int.reduceLT, Int.reduceLE, Int.reduceAdd, Int.reduceSub, Int.reduceMul, Int.reduceNeg, Int.reduceToNat, Nat.reduceEqDiff, Nat.reduceLT, Nat.reduceLeDiff, Nat.reduceMul, List.replicate, reduceCtorEq, TB, NB, MB, e0, e6, e7, show ¬ (i : Int) < j by omega]
    obtain ⟨a', e1, ha⟩ := r.leave (bs := a.base) (ds0 := a.dirty) (vs := []) rfl
    rw [e1]
    exact hK a' ha
end Go.Proofs.YtlbmjpmonaekgaaAM
