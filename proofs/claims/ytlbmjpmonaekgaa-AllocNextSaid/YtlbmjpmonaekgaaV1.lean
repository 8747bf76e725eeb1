/- Chapter 14: an allocator as it lies; what it tells. -/
import Derived.Test.YtlbmjpmonaekgaaV0
namespace Go.Proofs.YtlbmjpmonaekgaaAM
open Go Go.RowKit
set_option linter.unusedVariables false
set_option linter.unusedSimpArgs false
set_option maxRecDepth 10000
set_option maxHeartbeats 4000000

structure Al where
  now : List Int
  taken : List Int
  gave : List Int
  first : Int
  most : Int
structure Wf (s : Al) : Prop where
  asc : s.now.Pairwise (· < ·)
  rn : ∀ x ∈ s.now, 2 ≤ x ∧ x < s.first
  rt : ∀ x ∈ s.taken, 2 ≤ x ∧ x < s.first
  rg : ∀ x ∈ s.gave, 2 ≤ x ∧ x < s.first
  nt : ∀ x ∈ s.now, x ∉ s.taken
  ng : ∀ x ∈ s.now, x ∉ s.gave
  tg : ∀ x ∈ s.taken, x ∉ s.gave
  fm : 2 ≤ s.first ∧ s.first ≤ s.most ∧ s.most ≤ 1048576
def Al.len (s : Al) : Nat := s.now.length + s.taken.length + s.gave.length
def RowIs (h : List (Nat × Blk)) (b : Nat) (v : Value) (xs : List Int) : Prop :=
  (v = .slice none 0 0 ∧ xs = []) ∨ ∃ sp, v = .slice (some ⟨b, 0, some sp⟩) xs.length xs.length ∧ look b h = some (.cells (xs.map (Value.int .u32)) true) ∧ (sp = 2 ∨ sp = 0 ∧ xs = [])
/-- An allocator in its blocks: p its own, t and g its sets, b its row. -/
structure AllocIs (h : List (Nat × Blk)) (n p t g b : Nat) (s : Al) : Prop where
  st : ∃ v, look p h = some (.cells [v, .map (some t), .map (some g), .int .u32 s.first, .int .u32 s.most] true) ∧ RowIs h b v s.now
  tk : SetIs (look t h) s.taken
  gv : SetIs (look g h) s.gave
  lt : p < n ∧ t < n ∧ g < n ∧ b < n
  ne : p ≠ t ∧ p ≠ g ∧ t ≠ g ∧ b ≠ p ∧ b ≠ t ∧ b ≠ g
  wf : Wf s
theorem RowIs.shape {h : List (Nat × Blk)} {b : Nat} {v : Value} {xs : List Int} (hr : RowIs h b v xs) : ∃ po, v = .slice po xs.length xs.length := by
  rcases hr with ⟨rfl, rfl⟩ | ⟨sp, rfl, -⟩
  · exact ⟨none, rfl⟩
  · exact ⟨_, rfl⟩
theorem RowIs.row {h : List (Nat × Blk)} {b : Nat} {v : Value} {xs : List Int} {a : AW} (hr : RowIs h b v xs) (hh : h = a.heap) (hl : xs.length ≤ 60000) : rowU v a = some xs := by
  subst hh
  rcases hr with ⟨rfl, rfl⟩ | ⟨sp, rfl, hb, -⟩
  · rfl
  · unfold rowU
    have hg : a.get b = some (.cells (xs.map (Value.int .u32)) true) := hb
    simp [hg, hl, numsA_map]
section
variable {a : AW} {p t g b : Nat} {s : Al}
theorem pages15 (hA : AllocIs a.heap a.next p t g b s) (K) : WCall Try.prog GE 15 [.pointer (some ⟨p, 0, none⟩)] a K = K (.int .u32 s.first) a := by
  refine call_eq ?_ K
  rw [call_env Try.func15 rfl Try.ntmps15 rfl rfl (by simp)]
  obtain ⟨v, hp, hr⟩ := hA.st
  simp -dsimp (maxSteps := 4000000) (disch := first | omega | assumption | (simp only [FB, Nat.reduceAdd]; done) | (simp only [LB]; omega)) only [EB, ↓reduceIte, WB, Nat.reduceSub, Nat.reduceAdd, Int.reduceEq, Int.reduceNe, Int.reduceLT, Int.reduceLE, Int.reduceAdd, Int.reduceSub, Int.reduceMul, Int.reduceNeg, Int.reduceToNat, Nat.reduceEqDiff, Nat.reduceLT, Nat.reduceLeDiff, Nat.reduceMul, List.replicate, reduceCtorEq, TB, NB, MB, eql_ptr und28, hp]
  exact ⟨(by first | trivial | rfl | omega), (by first | trivial | rfl | omega)⟩
theorem left20 (hA : AllocIs a.heap a.next p t g b s) (hl : s.len ≤ 60000) (K) : WCall Try.prog GE 20 [.pointer (some ⟨p, 0, none⟩)] a K = K (.int .i64 (s.now.length + (s.most - s.first))) a := by
  refine call_eq ?_ K
  rw [call_env Try.func20 rfl Try.ntmps20 rfl rfl (by simp)]
  obtain ⟨v, hp, hr⟩ := hA.st
  obtain ⟨po, rfl⟩ := hr.shape
  have hfm := hA.wf.fm
  have hln : s.now.length ≤ 60000 := by unfold Al.len at hl; omega
  simp -dsimp (maxSteps := 4000000) (disch := first | omega | assumption | (simp only [FB, Nat.reduceAdd]; done) | (simp only [LB]; omega)) only [EB, ↓reduceIte, WB, Nat.reduceSub, Nat.reduceAdd, Int.reduceEq, Int.reduceNe, Int.reduceLT, Int.reduceLE, Int.reduceAdd, Int.reduceSub, Int.reduceMul, Int.reduceNeg, Int.reduceToNat, Nat.reduceEqDiff, Nat.reduceLT, Nat.reduceLeDiff, Nat.reduceMul, List.replicate, reduceCtorEq, TB, NB, MB, eql_ptr und28, hp]
  refine code_draw [(0, 5), (0, 6), (0, 7), (0, 8), (0, 9), (0, 10), (0, 11), (0, 12), (0, 13), (0, 14), (1, 5), (1, 6), (1, 7), (1, 8), (1, 9), (1, 10), (1, 11), (1, 12), (1, 13), (1, 14), (2, 5), (2, 6), (2, 7), (2, 8), (2, 9), (2, 10), (2, 11), (2, 12), (2, 13), (2, 14), (3, 5), (3, 6), (3, 7), (3, 8), (3, 9), (3, 10), (3, 11), (3, 12), (3, 13), (3, 14), (4, 5), (4, 6), (4, 7), (4, 8), (4, 9), (4, 10), (4, 11), (4, 12), (4, 13), (4, 14), (5, 9), (5, 10), (5, 11), (5, 12), (6, 9), (6, 10), (6, 11), (6, 12), (7, 9), (7, 10), (7, 11), (7, 12), (8, 9), (8, 10), (8, 11), (8, 12)] (by decide +kernel) (by decide +kernel) ?_
  simp -dsimp (maxSteps := 4000000) (disch := first | omega | assumption | (simp only [FB, Nat.reduceAdd]; done) | (simp only [LB]; omega)) only [EB, ↓reduceIte, WB, Nat.reduceSub, Nat.reduceAdd, Int.reduceEq, Int.reduceNe, Int.reduceLT, Int.reduceLE, Int.reduceAdd, Int.reduceSub, Int.reduceMul, Int.reduceNeg, Int.reduceToNat, Nat.reduceEqDiff, Nat.reduceLT, Nat.reduceLeDiff, Nat.reduceMul, List.replicate, reduceCtorEq, RB, Nat.reduceEqDiff, TB, NB, MB, hp, wrapu32 (show 0 ≤ s.most - s.first by omega) (by omega), wrap64]
  have hlt := hA.lt
  omega
theorem mine22 (hA : AllocIs a.heap a.next p t g b s) (x : Int) (K) : WCall Try.prog GE 22 [.pointer (some ⟨p, 0, none⟩), .int .u32 x] a K = K (.bool (decide (x ∈ s.taken))) a := by
  refine call_eq ?_ K
  rw [call_env Try.func22 rfl Try.ntmps22 rfl rfl (by simp)]
  obtain ⟨v, hp, hr⟩ := hA.st
  have hh := has55 (a := ⟨a.next, a.heap, a.next, []⟩) hA.tk x
  simp -dsimp (maxSteps := 4000000) (disch := first | omega | assumption | (simp only [FB, Nat.reduceAdd]; done) | (simp only [LB]; omega)) only [EB, ↓reduceIte, WB, Nat.reduceSub, Nat.reduceAdd, Int.reduceEq, Int.reduceNe, Int.reduceLT, Int.reduceLE, Int.reduceAdd, Int.reduceSub, Int.reduceMul, Int.reduceNeg, Int.reduceToNat, Nat.reduceEqDiff, Nat.reduceLT, Nat.reduceLeDiff, Nat.reduceMul, List.replicate, reduceCtorEq, TB, NB, MB, eql_ptr und28, hp, hh]
  exact ⟨(by first | trivial | rfl | omega), (by first | trivial | rfl | omega)⟩
theorem out_is (xs : List Int) (a : AW) : ListR encN 2 a (srtU xs) (outU xs a).1 (outU xs a).2 := by
  unfold outU
  cases hs : srtU xs with
  | nil => exact .inl ⟨rfl, rfl, rfl⟩
  | cons x r => exact .inr ⟨by simp, rfl, by simp only [growA, encN_map]; rfl⟩
/-- slices.Sorted, as it is given. -/
theorem sorted35_given {f : FuncId} {q o : Nat} {a : AW} (hb : a.base ≤ a.next) {c : List Value} (hq : look q a.heap = some (.cells c true)) {xs : List Int} (hg : gatherU f o c a = some xs) (hl : xs.length ≤ 60000) (K) :
    WCall Try.prog GE 35 [.func (.func f) #[] #[.pointer (some ⟨q, o, none⟩)]] a K = K (outU xs a).1 (outU xs a).2 := by
  refine call_given ?_
  show sortG [.func (.func f) #[] #[.pointer (some ⟨q, o, none⟩)]] a = _
  have hq' : a.get q = some (.cells c true) := hq
  simp only [sortG, Array.size_empty, hb, and_self, if_true, hq', hg, hl]
theorem leave_out {a c : AW} (hd : c.dirty = []) (hn : a.next ≤ c.next) (xs : List Int) : oneOf (leaveA a [(outU xs c).1] (outU xs c).2).1 = (outU xs a).1 ∧ (leaveA a [(outU xs c).1] (outU xs c).2).2 = (outU xs a).2 := by
  have h := out_is xs c
  obtain ⟨f1, f2, f3, f4⟩ := h.frame
  have ho := h.out
  generalize outU xs c = r at *
  obtain ⟨v, n, h, bs, d⟩ := r
  simp only at *
  subst f2
  rw [hd]
  have := out_list (leave_list' (a := a) (bs := bs) ho hn)
  rw [this]
  exact ⟨rfl, rfl⟩
theorem keys37 (t : Nat) (a : AW) (K) : WCall Try.prog GE 37 [.map (some t)] a K = K (.func (.func 52) #[] #[.pointer (some ⟨a.next, 0, none⟩)]) ⟨a.next + 1, (a.next, .cells [.map (some t)] true) :: a.heap, a.base, a.dirty⟩ := by
  refine call_eq ?_ K
  rw [call_env Try.func37 rfl Try.ntmps37 rfl rfl (by simp)]
  simp -dsimp (maxSteps := 4000000) (disch := first | omega | assumption | (simp only [FB, Nat.reduceAdd]; done) | (simp only [LB]; omega)) only [EB, ↓reduceIte, WB, Nat.reduceSub, Nat.reduceAdd, Int.reduceEq, Int.reduceNe, Int.reduceLT, Int.reduceLE, Int.reduceAdd, Int.reduceSub, Int.reduceMul, Int.reduceNeg, Int.reduceToNat, Nat.reduceEqDiff, Nat.reduceLT, Nat.reduceLeDiff, Nat.reduceMul, List.replicate, reduceCtorEq, TB, NB, MB, ]
  exact ⟨rfl, rfl⟩
theorem taken14 (hA : AllocIs a.heap a.next p t g b s) (hl : s.len ≤ 60000) (K) : WCall Try.prog GE 14 [.pointer (some ⟨p, 0, none⟩)] a K = K (outU s.taken a).1 (outU s.taken a).2 := by
  refine call_eq ?_ K
  rw [call_env Try.func14 rfl Try.ntmps14 rfl rfl (by simp)]
  obtain ⟨v, hp, hr⟩ := hA.st
  have hlt := hA.lt
  have hln : s.taken.length ≤ 60000 := by unfold Al.len at hl; omega
  have hfm := hA.wf.fm
  simp -dsimp (maxSteps := 4000000) (disch := first | omega | assumption | (simp only [FB, Nat.reduceAdd]; done) | (simp only [LB]; omega)) only [EB, ↓reduceIte, WB, Nat.reduceSub, Nat.reduceAdd, Int.reduceEq, Int.reduceNe, Int.reduceLT, Int.reduceLE, Int.reduceAdd, Int.reduceSub, Int.reduceMul, Int.reduceNeg, Int.reduceToNat, Nat.reduceEqDiff, Nat.reduceLT, Nat.reduceLeDiff, Nat.reduceMul, List.replicate, reduceCtorEq, TB, NB, MB, eql_ptr und28, hp, keys37]
  have hset : setA t ⟨a.next + 1, (a.next, .cells [.map (some t)] true) :: a.heap, a.next, []⟩ = some s.taken := by
    refine setA_of ?_ hln fun x hx => ?_
    · rw [look_miss (by omega)]; exact hA.tk
    · have := hA.wf.rt x hx; omega
  have h35 := fun K => sorted35_given (f := 52) (q := a.next) (o := 0) (a := ⟨a.next + 1, (a.next, .cells [.map (some t)] true) :: a.heap, a.next, []⟩) (Nat.le_succ _) look_self (show gatherU 52 0 _ _ = some s.taken from hset) hln K
  simp -dsimp (maxSteps := 4000000) (disch := first | omega | assumption | (simp only [FB, Nat.reduceAdd]; done) | (simp only [LB]; omega)) only [EB, ↓reduceIte, WB, Nat.reduceSub, Nat.reduceAdd, Int.reduceEq, Int.reduceNe, Int.reduceLT, Int.reduceLE, Int.reduceAdd, Int.reduceSub, Int.reduceMul, Int.reduceNeg, Int.reduceToNat, Nat.reduceEqDiff, Nat.reduceLT, Nat.reduceLeDiff, Nat.reduceMul, List.replicate, reduceCtorEq, TB, NB, MB, h35]
  exact leave_out rfl (Nat.le_succ _) _
theorem free13 (hA : AllocIs a.heap a.next p t g b s) (hl : s.len ≤ 60000) (K) : WCall Try.prog GE 13 [.pointer (some ⟨p, 0, none⟩)] a K = K (outU (s.now ++ s.gave) a).1 (outU (s.now ++ s.gave) a).2 := by
  refine call_eq ?_ K
  rw [call_env Try.func13 rfl Try.ntmps13 rfl rfl (by simp)]
  obtain ⟨v, hp, hr⟩ := hA.st
  have hlt := hA.lt
  have hl1 : s.now.length ≤ 60000 ∧ s.gave.length ≤ 60000 ∧ (s.now ++ s.gave).length ≤ 60000 := by unfold Al.len at hl; rw [List.length_append]; omega
  have hfm := hA.wf.fm
  have hg : gatherU 36 0 [.pointer (some ⟨p, 0, none⟩)] ⟨a.next + 1, (a.next, .cells [.pointer (some ⟨p, 0, none⟩)] true) :: a.heap, a.next, []⟩ = some (s.now ++ s.gave) := by
    have h1 : AW.get ⟨a.next + 1, (a.next, .cells [.pointer (some ⟨p, 0, none⟩)] true) :: a.heap, a.next, []⟩ p = some (.cells [v, .map (some t), .map (some g), .int .u32 s.first, .int .u32 s.most] true) := by
      rw [get_mk, look_miss (by omega)]; exact hp
    have h2 : setA g ⟨a.next + 1, (a.next, .cells [.pointer (some ⟨p, 0, none⟩)] true) :: a.heap, a.next, []⟩ = some s.gave := by
      refine setA_of ?_ hl1.2.1 fun x hx => ?_
      · rw [look_miss (by omega)]; exact hA.gv
      · have := hA.wf.rg x hx; omega
    have h3 : rowU v ⟨a.next + 1, (a.next, .cells [.pointer (some ⟨p, 0, none⟩)] true) :: a.heap, a.next, []⟩ = some s.now := by
      refine RowIs.row (b := b) (h := (a.next, .cells [.pointer (some ⟨p, 0, none⟩)] true) :: a.heap) ?_ rfl hl1.1
      rcases hr with h | ⟨sp, e1, e2, e3⟩
      · exact .inl h
      · exact .inr ⟨sp, e1, by rw [look_miss (by omega)]; exact e2, e3⟩
    unfold gatherU
    rw [if_neg (by decide), if_pos rfl]
    simp only [List.getElem?_cons_zero, h1, List.getElem?_cons_succ, Nat.zero_add, h2, h3]
  have h35 := fun K => sorted35_given (f := 36) (q := a.next) (o := 0) (a := ⟨a.next + 1, (a.next, .cells [.pointer (some ⟨p, 0, none⟩)] true) :: a.heap, a.next, []⟩) (Nat.le_succ _) look_self hg hl1.2.2 K
  simp -dsimp (maxSteps := 4000000) (disch := first | omega | assumption | (simp only [FB, Nat.reduceAdd]; done) | (simp only [LB]; omega)) only [EB, ↓reduceIte, WB, Nat.reduceSub, Nat.reduceAdd, Int.reduceEq, Int.reduceNe, Int.reduceLT, Int.reduceLE, Int.reduceAdd, Int.reduceSub, Int.reduceMul, Int.reduceNeg, Int.reduceToNat, Nat.reduceEqDiff, Nat.reduceLT, Nat.reduceLeDiff, Nat.reduceMul, List.replicate, reduceCtorEq, TB, NB, MB, eql_ptr und28, h35]
  exact leave_out rfl (Nat.le_succ _) _
end
end Go.Proofs.YtlbmjpmonaekgaaAM
