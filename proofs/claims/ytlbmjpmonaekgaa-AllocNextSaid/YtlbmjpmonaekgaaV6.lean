/- Chapter 14: New. -/
import Derived.Test.YtlbmjpmonaekgaaV5
namespace Go.Proofs.YtlbmjpmonaekgaaAM
open Go Go.RowKit
set_option linter.unusedVariables false
set_option linter.unusedSimpArgs false
set_option maxRecDepth 10000
set_option maxHeartbeats 4000000

theorem note_makeMap {E : Program} {G : Gives} {t : List Value} {a : AW} {K : Note → Value → AW → Prop} {ty : TypeId} : WNote E G (.makeMap ty none) t a K = WOp E G (.makeMap ty none) t a fun v b => K (.work a.next []) v b := note_make rfl
/-- What New takes. -/
def newOk (xs : List Int) (f m : Int) : Bool := !(decide (f < 2) || decide (m < f) || decide (1048576 < m) || !(risesB xs) || xs.any (badB f))
theorem wf_new {xs : List Int} {f m : Int} (h : newOk xs f m = true) : Wf ⟨xs, [], [], f, m⟩ := by
  unfold newOk at h
  simp only [Bool.not_eq_true', Bool.or_eq_false_iff, decide_eq_false_iff_not, Bool.not_eq_false'] at h
  obtain ⟨⟨⟨⟨h1, h2⟩, h3⟩, h4⟩, h5⟩ := h
  refine ⟨(rises_iff xs).1 h4, fun x hx => ?_, fun x hx => (by cases hx), fun x hx => (by cases hx), fun x _ h => (by cases h), fun x _ h => (by cases h), fun x h => (by cases h), ?_⟩
  · have : badB f x = false := by
      rw [Bool.eq_false_iff]
      intro hb
      rw [List.any_eq_true.2 ⟨x, hx, hb⟩] at h5
      cases h5
    unfold badB at this
    simp only [Bool.or_eq_false_iff, decide_eq_false_iff_not] at this
    show 2 ≤ x ∧ x < f
    omega
  · show 2 ≤ f ∧ f ≤ m ∧ m ≤ 1048576
    omega
theorem leave_held2 {before : AW} {p : Addr} {u : Value} {n bs : Nat} {h : List (Nat × Blk)} {c : List Value} (hu : flat u = true) (hp : look p.block h = some (.cells c true)) (hc : c.all flat = false) :
    leaveA before [.pointer (some p), u] ⟨n, h, bs, []⟩ = ([.pointer (some p), u], ⟨n, h, before.base, before.dirty⟩) := by
  have h1 : flat (.pointer (some p)) = false := rfl
  have h2 : AW.get ⟨n, h, bs, []⟩ p.block = some (.cells c true) := hp
  unfold leaveA
  simp [h1, hu, freshOf, h2, hc]
theorem new10 (v : Value) (xs : List Int) (hl : xs.length ≤ 60000) (f m : Int) (a : AW) (hv : RV encN 1 a.heap a.next v xs) (K : Value → AW → Prop)
    (hK0 : newOk xs f m = false → K (.tuple #[.pointer none, .int .i64 2]) a)
    (hK : newOk xs f m = true → ∀ p t g b h' n', AllocIs h' n' p t g b ⟨xs, [], [], f, m⟩ → a.next ≤ p → a.next ≤ t → a.next ≤ g → a.next ≤ b → (∀ j, j < a.next → look j h' = look j a.heap) → K (.tuple #[.pointer (some ⟨p, 0, none⟩), .int .i64 0]) ⟨n', h', a.base, a.dirty⟩) :
    WCall Try.prog GE 10 [v, .int .u32 f, .int .u32 m] a K := by
  rw [call_env Try.func10 rfl Try.ntmps10 rfl rfl (by simp)]
  have hv1 : RV encN 1 ((a.next, Blk.cells [.int .u32 f] true) :: a.heap) (a.next + 1) v xs := by
    rcases hv with hv | ⟨b, o, sp, cap, rw0, c, rfl, hb, hbm, hc, ht, hsp, hcap⟩
    · exact .inl hv
    · exact .inr ⟨b, o, sp, cap, rw0, c, rfl, by rw [look_miss (by omega)]; exact hb, by omega, hc, ht, hsp, hcap⟩
  have hr := hv1.rowR
  have h29 := fun K => rises29 (a := ⟨a.next + 1, (a.next, .cells [.int .u32 f] true) :: a.heap, a.next, []⟩) hr hl K
  have h30 := fun K => contains30 (q := a.next) (f := f) (a := ⟨a.next + 1, (a.next, .cells [.int .u32 f] true) :: a.heap, a.next, []⟩) look_self (Nat.lt_succ_self _) hr hl K
  unfold newOk at hK0 hK
  by_cases h1 : f < 2
  · simp -dsimp (maxSteps := 4000000) (disch := first | omega | assumption | (simp only [FB, Nat.reduceAdd]; done) | (simp only [LB]; omega)) only [EB, ↓reduceIte, WB, Nat.reduceSub, Nat.reduceAdd, Int.reduceEq, Int.reduceNe, Int.reduceLT, Int.reduceLE, Int.reduceAdd, Int.reduceSub, Int.reduceMul, Int.reduceNeg, Int.reduceToNat, Nat.reduceEqDiff, Nat.reduceLT, Nat.reduceLeDiff, Nat.reduceMul, List.replicate, reduceCtorEq, TB, NB, MB, h1, load_one agg27]
    exact hK0 (by simp [h1])
  by_cases h2 : m < f
  · simp -dsimp (maxSteps := 4000000) (disch := first | omega | assumption | (simp only [FB, Nat.reduceAdd]; done) | (simp only [LB]; omega)) only [EB, ↓reduceIte, WB, Nat.reduceSub, Nat.reduceAdd, Int.reduceEq, Int.reduceNe, Int.reduceLT, Int.reduceLE, Int.reduceAdd, Int.reduceSub, Int.reduceMul, Int.reduceNeg, Int.reduceToNat, Nat.reduceEqDiff, Nat.reduceLT, Nat.reduceLeDiff, Nat.reduceMul, List.replicate, reduceCtorEq, TB, NB, MB, h1, h2, load_one agg27]
    exact hK0 (by simp [h2])
  by_cases h3 : 1048576 < m
  · simp -dsimp (maxSteps := 4000000) (disch := first | omega | assumption | (simp only [FB, Nat.reduceAdd]; done) | (simp only [LB]; omega)) only [EB, ↓reduceIte, WB, Nat.reduceSub, Nat.reduceAdd, Int.reduceEq, Int.reduceNe, Int.reduceLT, Int.reduceLE, Int.reduceAdd, Int.reduceSub, Int.reduceMul, Int.reduceNeg, Int.reduceToNat, Nat.reduceEqDiff, Nat.reduceLT, Nat.reduceLeDiff, Nat.reduceMul, List.replicate, reduceCtorEq, TB, NB, MB, h1, h2, h3, load_one agg27]
    exact hK0 (by simp [h3])
  cases h4 : risesB xs with
  | false =>
    simp -dsimp (maxSteps := 4000000) (disch := first | omega | assumption | (simp only [FB, Nat.reduceAdd]; done) | (simp only [LB]; omega)) only [EB, ↓reduceIte, WB, Nat.reduceSub, Nat.reduceAdd, Int.reduceEq, Int.reduceNe, Int.reduceLT, Int.reduceLE, Int.reduceAdd, Int.reduceSub, Int.reduceMul, Int.reduceNeg, Int.reduceToNat, Nat.reduceEqDiff, Nat.reduceLT, Nat.reduceLeDiff, Nat.reduceMul, List.replicate, reduceCtorEq, TB, NB, MB, h1, h2, h3, load_one agg27, h29, h4]
    exact hK0 (by simp [h4])
  | true =>
    cases h5 : xs.any (badB f) with
    | true =>
      simp -dsimp (maxSteps := 4000000) (disch := first | omega | assumption | (simp only [FB, Nat.reduceAdd]; done) | (simp only [LB]; omega)) only [EB, ↓reduceIte, WB, Nat.reduceSub, Nat.reduceAdd, Int.reduceEq, Int.reduceNe, Int.reduceLT, Int.reduceLE, Int.reduceAdd, Int.reduceSub, Int.reduceMul, Int.reduceNeg, Int.reduceToNat, Nat.reduceEqDiff, Nat.reduceLT, Nat.reduceLeDiff, Nat.reduceMul, List.replicate, reduceCtorEq, TB, NB, MB, h1, h2, h3, load_one agg27, h29, h4, h30, h5]
      exact hK0 (by simp [h5])
    | false =>
      simp -dsimp (maxSteps := 4000000) (disch := first | omega | assumption | (simp only [FB, Nat.reduceAdd]; done) | (simp only [LB]; omega)) only [EB, ↓reduceIte, WB, Nat.reduceSub, Nat.reduceAdd, Int.reduceEq, Int.reduceNe, Int.reduceLT, Int.reduceLE, Int.reduceAdd, Int.reduceSub, Int.reduceMul, Int.reduceNeg, Int.reduceToNat, Nat.reduceEqDiff, Nat.reduceLT, Nat.reduceLeDiff, Nat.reduceMul, List.replicate, reduceCtorEq, TB, NB, MB, h1, h2, h3, load_one agg27, h29, h4, h30, h5]
      refine code_draw [(0, 2), (0, 3), (0, 4), (0, 5), (1, 2), (1, 3), (1, 4), (1, 5), (2, 3), (2, 4), (2, 5), (3, 4), (3, 5), (4, 5)] (by decide +kernel) (by decide +kernel) ?_
      simp -dsimp (maxSteps := 4000000) (disch := first | omega | assumption | (simp only [FB, Nat.reduceAdd]; done) | (simp only [LB]; omega)) only [EB, ↓reduceIte, WB, Nat.reduceSub, Nat.reduceAdd, Int.reduceEq, Int.reduceNe, Int.reduceLT, Int.reduceLE, Int.reduceAdd, Int.reduceSub, Int.reduceMul, Int.reduceNeg, Int.reduceToNat, Nat.reduceEqDiff, Nat.reduceLT, Nat.reduceLeDiff, Nat.reduceMul, List.replicate, reduceCtorEq, RB, Nat.reduceEqDiff, TB, NB, MB, ]
      have hv2 : RV encN 1 ((a.next, Blk.cells [.int .u32 f] true) :: a.heap) (a.next + 2) v xs := by
        rcases hv1 with hv | ⟨b, o, sp, cap, rw0, c, rfl, hb, hbm, hc, ht, hsp, hcap⟩
        · exact .inl hv
        · exact .inr ⟨b, o, sp, cap, rw0, c, rfl, hb, by omega, hc, ht, hsp, hcap⟩
      refine clone31 v xs hl ⟨a.next + 2, (a.next, Blk.cells [.int .u32 f] true) :: a.heap, a.next + 2, []⟩ hv2 _ fun v' n' h' x1 x2 x3 x4 x5 => ?_
      have hq : look a.next h' = some (.cells [.int .u32 f] true) := (x5 a.next (by simp only; omega)).trans look_self
      obtain ⟨po, rfl⟩ := x3.shape
      simp only at x1 x2 x3 x4 x5
      have hqn : a.next < n' := by omega
      simp -dsimp (maxSteps := 4000000) (disch := first | omega | assumption | (simp only [FB, Nat.reduceAdd]; done) | (simp only [LB]; omega)) only [EB, ↓reduceIte, WB, Nat.reduceSub, Nat.reduceAdd, Int.reduceEq, Int.reduceNe, Int.reduceLT, Int.reduceLE, Int.reduceAdd, Int.reduceSub, Int.reduceMul, Int.reduceNeg, Int.reduceToNat, Nat.reduceEqDiff, Nat.reduceLT, Nat.reduceLeDiff, Nat.reduceMul, List.replicate, reduceCtorEq, RB, Nat.reduceEqDiff, TB, NB, MB, hq, load_one agg27, note_makeMap]
      rw [leave_held2 rfl look_self (by simp [flat, flatN])]
      have hsets : SetIs (look n' ((n' + 2, Blk.cells [Value.slice po xs.length xs.length, .map (some n'), .map (some (n' + 1)), .int .u32 f, .int .u32 m] true) :: (n' + 1, .obj (.map #[] 0)) :: (n', .obj (.map #[] 0)) :: h')) [] ∧ SetIs (look (n' + 1) ((n' + 2, Blk.cells [Value.slice po xs.length xs.length, .map (some n'), .map (some (n' + 1)), .int .u32 f, .int .u32 m] true) :: (n' + 1, .obj (.map #[] 0)) :: (n', .obj (.map #[] 0)) :: h')) [] := by
        rw [look_miss (by omega), look_miss (by omega), look_self, look_miss (by omega), look_self]
        exact ⟨⟨map_new, List.nodup_nil⟩, ⟨map_new, List.nodup_nil⟩⟩
      have hok : newOk xs f m = true := by simp [newOk, h1, h2, h3, h4, h5]
      have hout : ∀ j, j < a.next → look j ((n' + 2, Blk.cells [Value.slice po xs.length xs.length, .map (some n'), .map (some (n' + 1)), .int .u32 f, .int .u32 m] true) :: (n' + 1, .obj (.map #[] 0)) :: (n', .obj (.map #[] 0)) :: h') = look j a.heap := by
        intro j hj
        rw [look_miss (by omega), look_miss (by omega), look_miss (by omega), x5 j (by omega), look_miss (by omega)]
      have hrow : ∀ b, b < n' → RowIs h' b (.slice po xs.length xs.length) xs → RowIs ((n' + 2, Blk.cells [Value.slice po xs.length xs.length, .map (some n'), .map (some (n' + 1)), .int .u32 f, .int .u32 m] true) :: (n' + 1, .obj (.map #[] 0)) :: (n', .obj (.map #[] 0)) :: h') b (.slice po xs.length xs.length) xs := by
        intro b hb hr
        rcases hr with h | ⟨sp, e1, e2, e3⟩
        · exact .inl h
        · exact .inr ⟨sp, e1, by rw [look_miss (by omega), look_miss (by omega), look_miss (by omega)]; exact e2, e3⟩
      have hfin : ∀ b, a.next ≤ b → b < n' → RowIs h' b (.slice po xs.length xs.length) xs → K (.tuple #[.pointer (some ⟨n' + 2, 0, none⟩), .int .i64 0]) ⟨n' + 3, (n' + 2, Blk.cells [Value.slice po xs.length xs.length, .map (some n'), .map (some (n' + 1)), .int .u32 f, .int .u32 m] true) :: (n' + 1, .obj (.map #[] 0)) :: (n', .obj (.map #[] 0)) :: h', a.base, a.dirty⟩ := fun b hb1 hb2 hr =>
        hK (by simp [h1, h2, h3, h4, h5]) (n' + 2) n' (n' + 1) b _ _ ⟨⟨_, look_self, hrow b hb2 hr⟩, hsets.1, hsets.2, ⟨by omega, by omega, by omega, by omega⟩, ⟨by omega, by omega, by omega, by omega, by omega, by omega⟩, wf_new hok⟩ (by omega) (by omega) (by omega) hb1 hout
      rcases x4 with e | hlt
      · have hnil : po = none ∧ xs = [] := by
          injection e with e1 e2
          exact ⟨e1, List.eq_nil_of_length_eq_zero e2⟩
        exact hfin (a.next + 1) (by omega) (by omega) (.inl ⟨by rw [hnil.1, hnil.2]; rfl, hnil.2⟩)
      · exact hfin (a.next + 2) (by omega) hlt x3
end Go.Proofs.YtlbmjpmonaekgaaAM
