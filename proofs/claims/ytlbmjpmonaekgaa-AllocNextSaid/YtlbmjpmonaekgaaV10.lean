/- Chapter 14: rows that are the same; a copy. -/
import Derived.Test.YtlbmjpmonaekgaaV9
namespace Go.Proofs.YtlbmjpmonaekgaaAM
open Go Go.RowKit
set_option linter.unusedVariables false
set_option linter.unusedSimpArgs false
set_option maxRecDepth 10000
set_option maxHeartbeats 4000000

theorem same24 {a : AW} {v1 v2 : Value} {xs ys : List Int} (h1 : RowR a.heap a.next v1 xs) (h2 : RowR a.heap a.next v2 ys) (hl : xs.length ≤ 60000) (hl2 : ys.length ≤ 60000) (K) :
    WCall Try.prog GE 24 [v1, v2] a K = K (.bool (decide (xs = ys))) a := by
  refine call_eq ?_ K
  rw [call_env Try.func24 rfl Try.ntmps24 rfl rfl (by simp)]
  obtain ⟨po, c, rfl, hrow⟩ := h1
  obtain ⟨po2, c2, rfl, hrow2⟩ := h2
  by_cases hlen : xs.length = ys.length
  · obtain ⟨N, hN⟩ : ∃ N, N = xs.length := ⟨_, rfl⟩
    rw [← hlen, ← hN]
    rw [← hN] at hl
    simp -dsimp (maxSteps := 4000000) (disch := first | omega | assumption | (simp only [FB, Nat.reduceAdd]; done) | (simp only [LB]; omega)) only [EB, ↓reduceIte, WB, Nat.reduceSub, Nat.reduceAdd, Int.reduceEq, Int.reduceNe, Int.reduceLT, Int.reduceLE, Int.reduceAdd, Int.reduceSub, Int.reduceMul, Int.reduceNeg, Int.reduceToNat, Nat.reduceEqDiff, Nat.reduceLT, Nat.reduceLeDiff, Nat.reduceMul, List.replicate, reduceCtorEq, TB, NB, MB, eq_self]
    refine loop_inv (fun k t w => ∃ (i n : Nat), ∃ e, k = N - i ∧ i ≤ N ∧ a.next ≤ n ∧ (∀ j, j < i → xs[j]? = ys[j]?) ∧ w = ⟨n, a.heap, a.next, []⟩ ∧ t = TT 26 e ∧ e 0 = .slice po N c ∧ e 1 = .slice po2 N c2 ∧ e 5 = .int .i64 i)
      ⟨0, a.next, _, rfl, Nat.zero_le _, Nat.le_refl _, fun j hj => absurd hj (Nat.not_lt_zero _), rfl, rfl, rfl, rfl, rfl⟩ ?_
    rintro k t w ⟨i, n, e, rfl, hi, hn, hj, rfl, rfl, e0, e1, e5⟩
    by_cases hin : i < N
    · have hm1 : i < xs.length := by omega
      have hm2 : i < ys.length := by omega
      obtain ⟨b, o, sp, rw_, c0, hbn, rfl, hb, hat⟩ := hrow (by intro e; rw [e] at hN; simp at hN; omega)
      obtain ⟨b2, o2, sp2, rw2, c02, hbn2, rfl, hb2, hat2⟩ := hrow2 (by intro e; rw [e] at hlen; simp at hlen; rw [hlen] at hN; simp at hN; omega)
      have hc := hat _ hm1
      have hc2 := hat2 _ hm2
      simp -dsimp (maxSteps := 4000000) (disch := first | omega | assumption | (simp only [FB, Nat.reduceAdd]; done) | (simp only [LB]; omega)) only [EB, ↓reduceIte, WB, Nat.reduceSub, Nat.reduceAdd, Int.reduceEq, Int.reduceNe, Int.reduceLT, Int.reduceLE, Int.reduceAdd, Int.reduceSub, Int.reduceMul, Int.reduceNeg, Int.reduceToNat, Nat.reduceEqDiff, Nat.reduceLT, Nat.reduceLeDiff, Nat.reduceMul, List.replicate, reduceCtorEq, TB, NB, MB, e0, e1, e5, show (i : Int) < N by omega]
      refine code_draw [(0, 1), (0, 4), (0, 5), (0, 6), (0, 7), (1, 4), (1, 5), (1, 6), (1, 7), (2, 4), (2, 5), (2, 6), (2, 7), (3, 4), (3, 5), (3, 6), (3, 7), (4, 5)] (by decide +kernel) (by decide +kernel) ?_
      by_cases hx : xs[i] = ys[i]
      · simp -dsimp (maxSteps := 4000000) (disch := first | omega | assumption | (simp only [FB, Nat.reduceAdd]; done) | (simp only [LB]; omega)) only [EB, ↓reduceIte, WB, Nat.reduceSub, Nat.reduceAdd, Int.reduceEq, Int.reduceNe, Int.reduceLT, Int.reduceLE, Int.reduceAdd, Int.reduceSub, Int.reduceMul, Int.reduceNeg, Int.reduceToNat, Nat.reduceEqDiff, Nat.reduceLT, Nat.reduceLeDiff, Nat.reduceMul, List.replicate, reduceCtorEq, RB, Nat.reduceEqDiff, TB, NB, MB, e0, e1, e5, indexAddr_slice und25 size27, load_one agg27, hb, hc, hb2, hc2, hx, eq_self, wrap64]
        refine ⟨N - (i + 1), by omega, i + 1, n + 1, _, rfl, by omega, by omega, fun j hji => ?_, rfl, rfl, ?_⟩
        · by_cases hje : j = i
          · subst hje
            rw [List.getElem?_eq_getElem hm1, List.getElem?_eq_getElem hm2, hx]
          · exact hj j (by omega)
        · simp only [ups_at, ↓reduceIte, Nat.reduceEqDiff]
          exact ⟨e0, e1, (by first | trivial | rfl | omega)⟩
      · simp -dsimp (maxSteps := 4000000) (disch := first | omega | assumption | (simp only [FB, Nat.reduceAdd]; done) | (simp only [LB]; omega)) only [EB, ↓reduceIte, WB, Nat.reduceSub, Nat.reduceAdd, Int.reduceEq, Int.reduceNe, Int.reduceLT, Int.reduceLE, Int.reduceAdd, Int.reduceSub, Int.reduceMul, Int.reduceNeg, Int.reduceToNat, Nat.reduceEqDiff, Nat.reduceLT, Nat.reduceLeDiff, Nat.reduceMul, List.replicate, reduceCtorEq, RB, Nat.reduceEqDiff, TB, NB, MB, e0, e1, e5, indexAddr_slice und25 size27, load_one agg27, hb, hc, hb2, hc2, hx]
        have hne : ¬ xs = ys := by
          rintro rfl
          exact hx rfl
        simp [hne]
    · simp -dsimp (maxSteps := 4000000) (disch := first | omega | assumption | (simp only [FB, Nat.reduceAdd]; done) | (simp only [LB]; omega)) only [EB, ↓reduceIte, WB, Nat.reduceSub, Nat.reduceAdd, Int.reduceEq, Int.reduceNe, Int.reduceLT, Int.reduceLE, Int.reduceAdd, Int.reduceSub, Int.reduceMul, Int.reduceNeg, Int.reduceToNat, Nat.reduceEqDiff, Nat.reduceLT, Nat.reduceLeDiff, Nat.reduceMul, List.replicate, reduceCtorEq, TB, NB, MB, e0, e1, e5, show ¬ (i : Int) < N by omega]
      have heq : xs = ys := by
        apply List.ext_getElem? 
        intro j
        by_cases hji : j < i
        · exact hj j hji
        · rw [List.getElem?_eq_none (by omega), List.getElem?_eq_none (by omega)]
      simp [heq]
  · simp -dsimp (maxSteps := 4000000) (disch := first | omega | assumption | (simp only [FB, Nat.reduceAdd]; done) | (simp only [LB]; omega)) only [EB, ↓reduceIte, WB, Nat.reduceSub, Nat.reduceAdd, Int.reduceEq, Int.reduceNe, Int.reduceLT, Int.reduceLE, Int.reduceAdd, Int.reduceSub, Int.reduceMul, Int.reduceNeg, Int.reduceToNat, Nat.reduceEqDiff, Nat.reduceLT, Nat.reduceLeDiff, Nat.reduceMul, List.replicate, reduceCtorEq, TB, NB, MB, show ¬ ((xs.length : Int) = ys.length) by omega]
    have hne : ¬ xs = ys := by
      rintro rfl
      exact hlen rfl
    simp [hne]
theorem clone42' {a : AW} {r : Nat} {L : List Int} (hs : SetIs (look r a.heap) L) (hb : a.base ≤ a.next) (K) (hK : ∀ bk, SetIs (some bk) L → K (.map (some a.next)) (a.new bk)) : WCall Try.prog GE 42 [.map (some r)] a K := by
  obtain ⟨⟨es, clock, hg, h⟩, hn⟩ := hs
  have hg' : a.get r = some (.obj (.map es clock)) := hg
  rw [call_given (v := .map (some a.next)) (w := a.new (.obj (.map es clock))) (by
    show cloneG [.map (some r)] a = _
    simp only [cloneG, hg', hb, if_true])]
  exact hK _ ⟨⟨es, clock, rfl, h⟩, hn⟩
theorem leave_held1 {before : AW} {p : Addr} {n bs : Nat} {h : List (Nat × Blk)} {c : List Value} (hp : look p.block h = some (.cells c true)) (hc : c.all flat = false) :
    leaveA before [.pointer (some p)] ⟨n, h, bs, []⟩ = ([.pointer (some p)], ⟨n, h, before.base, before.dirty⟩) := by
  have h1 : flat (.pointer (some p)) = false := rfl
  have h2 : AW.get ⟨n, h, bs, []⟩ p.block = some (.cells c true) := hp
  unfold leaveA
  simp [h1, freshOf, h2, hc]
theorem copy27 {a : AW} {p t g b : Nat} {s : Al} (hA : AllocIs a.heap a.next p t g b s) (hl : s.len ≤ 50000) (K : Value → AW → Prop)
    (hK : ∀ p' t' g' b' h' n', AllocIs h' n' p' t' g' b' s → a.next ≤ p' → a.next ≤ t' → a.next ≤ g' → a.next ≤ b' → (∀ j, j < a.next → look j h' = look j a.heap) → K (.pointer (some ⟨p', 0, none⟩)) ⟨n', h', a.base, a.dirty⟩) :
    WCall Try.prog GE 27 [.pointer (some ⟨p, 0, none⟩)] a K := by
  rw [call_env Try.func27 rfl Try.ntmps27 rfl rfl (by simp)]
  obtain ⟨⟨v, hp, hr⟩, htk, hgv, ⟨hpn, htn, hgn, hbn⟩, hne, hwf⟩ := hA
  obtain ⟨po, rfl⟩ := hr.shape
  simp -dsimp (maxSteps := 4000000) (disch := first | omega | assumption | (simp only [FB, Nat.reduceAdd]; done) | (simp only [LB]; omega)) only [EB, ↓reduceIte, WB, Nat.reduceSub, Nat.reduceAdd, Int.reduceEq, Int.reduceNe, Int.reduceLT, Int.reduceLE, Int.reduceAdd, Int.reduceSub, Int.reduceMul, Int.reduceNeg, Int.reduceToNat, Nat.reduceEqDiff, Nat.reduceLT, Nat.reduceLeDiff, Nat.reduceMul, List.replicate, reduceCtorEq, TB, NB, MB, eql_ptr und28, hp, load_agg agg57 size57]
  refine code_draw [(0, 5), (0, 6), (0, 7), (0, 8), (0, 10), (0, 11), (0, 12), (0, 13), (1, 5), (1, 6), (1, 7), (1, 8), (1, 10), (1, 11), (1, 12), (1, 13), (2, 5), (2, 6), (2, 7), (2, 8), (2, 10), (2, 11), (2, 12), (2, 13), (3, 5), (3, 6), (3, 7), (3, 8), (3, 10), (3, 11), (3, 12), (3, 13), (4, 5), (4, 6), (4, 7), (4, 8), (4, 10), (4, 11), (4, 12), (4, 13), (5, 10), (5, 11), (5, 12), (5, 13), (6, 10), (6, 11), (6, 12), (6, 13), (7, 10), (7, 11), (7, 12), (7, 13), (8, 10), (8, 11), (8, 12), (8, 13), (9, 10), (9, 11), (9, 12), (9, 13)] (by decide +kernel) (by decide +kernel) ?_
  have hln : s.now.length ≤ 60000 := by unfold Al.len at hl; omega
  simp -dsimp (maxSteps := 4000000) (disch := first | omega | assumption | (simp only [FB, Nat.reduceAdd]; done) | (simp only [LB]; omega)) only [EB, ↓reduceIte, WB, Nat.reduceSub, Nat.reduceAdd, Int.reduceEq, Int.reduceNe, Int.reduceLT, Int.reduceLE, Int.reduceAdd, Int.reduceSub, Int.reduceMul, Int.reduceNeg, Int.reduceToNat, Nat.reduceEqDiff, Nat.reduceLT, Nat.reduceLeDiff, Nat.reduceMul, List.replicate, reduceCtorEq, RB, Nat.reduceEqDiff, TB, NB, MB, hp]
  have hr0 : RowIs ((a.next, Blk.cells [.slice po s.now.length s.now.length, .map (some t), .map (some g), .int .u32 s.first, .int .u32 s.most] true) :: a.heap) b (.slice po s.now.length s.now.length) s.now := hr.keep (look_miss (by omega))
  refine clone31 _ s.now hln ⟨a.next + 2, (a.next, Blk.cells [.slice po s.now.length s.now.length, .map (some t), .map (some g), .int .u32 s.first, .int .u32 s.most] true) :: a.heap, a.next + 2, []⟩ (hr0.rv (by simp only; omega)) _ fun v' n' h' x1 x2 x3 x4 x5 => ?_
  simp only at x1 x2 x3 x4 x5
  have y5 : ∀ j, j < a.next → look j h' = look j a.heap := fun j hj => (x5 j (by omega)).trans (look_miss (by omega))
  have hp2 : look p h' = some (.cells [.slice po s.now.length s.now.length, .map (some t), .map (some g), .int .u32 s.first, .int .u32 s.most] true) := (y5 p hpn).trans hp
  have hq2 : look a.next h' = some (.cells [.slice po s.now.length s.now.length, .map (some t), .map (some g), .int .u32 s.first, .int .u32 s.most] true) := (x5 a.next (by omega)).trans look_self
  obtain ⟨po', rfl⟩ := x3.shape
  have l1 : p < n' := by omega
  simp -dsimp (maxSteps := 4000000) (disch := first | omega | assumption | (simp only [FB, Nat.reduceAdd]; done) | (simp only [LB]; omega)) only [EB, ↓reduceIte, WB, Nat.reduceSub, Nat.reduceAdd, Int.reduceEq, Int.reduceNe, Int.reduceLT, Int.reduceLE, Int.reduceAdd, Int.reduceSub, Int.reduceMul, Int.reduceNeg, Int.reduceToNat, Nat.reduceEqDiff, Nat.reduceLT, Nat.reduceLeDiff, Nat.reduceMul, List.replicate, reduceCtorEq, RB, Nat.reduceEqDiff, TB, NB, MB, hp2]
  refine clone42' (a := ⟨n', h', n', []⟩) (r := t) (L := s.taken) (by simp only; rw [y5 t htn]; exact htk) (Nat.le_refl _) _ fun bt hbt => ?_
  simp -dsimp (maxSteps := 4000000) (disch := first | omega | assumption | (simp only [FB, Nat.reduceAdd]; done) | (simp only [LB]; omega)) only [EB, ↓reduceIte, WB, Nat.reduceSub, Nat.reduceAdd, Int.reduceEq, Int.reduceNe, Int.reduceLT, Int.reduceLE, Int.reduceAdd, Int.reduceSub, Int.reduceMul, Int.reduceNeg, Int.reduceToNat, Nat.reduceEqDiff, Nat.reduceLT, Nat.reduceLeDiff, Nat.reduceMul, List.replicate, reduceCtorEq, RB, Nat.reduceEqDiff, TB, NB, MB, hp2]
  refine clone42' (a := ⟨n' + 1, (n', bt) :: h', n' + 1, []⟩) (r := g) (L := s.gave) (by simp only; rw [look_miss (by omega), y5 g hgn]; exact hgv) (Nat.le_refl _) _ fun bg hbg => ?_
  simp -dsimp (maxSteps := 4000000) (disch := first | omega | assumption | (simp only [FB, Nat.reduceAdd]; done) | (simp only [LB]; omega)) only [EB, ↓reduceIte, WB, Nat.reduceSub, Nat.reduceAdd, Int.reduceEq, Int.reduceNe, Int.reduceLT, Int.reduceLE, Int.reduceAdd, Int.reduceSub, Int.reduceMul, Int.reduceNeg, Int.reduceToNat, Nat.reduceEqDiff, Nat.reduceLT, Nat.reduceLeDiff, Nat.reduceMul, List.replicate, reduceCtorEq, RB, Nat.reduceEqDiff, TB, NB, MB, hp2, hq2, storeVar_eq size25, storeVar_eq size55, write_soil]
  have hd : soilAll (soilAll (soilAll [] a.next (soilW (n' + 2) [] a.next)) a.next (soilW (n' + 2) [] a.next)) a.next (soilW (n' + 2) [] a.next) = [] := by
    have e : soilW (n' + 2) [] a.next = [a.next] := by unfold soilW; rw [if_pos (by omega)]; rfl
    rw [e, soil_own (Nat.le_refl _), soil_own (Nat.le_refl _), soil_own (Nat.le_refl _)]
  rw [hd, put_twice, put_twice]
  have hq3 : look a.next ((n' + 1, bg) :: (n', bt) :: putAt a.next (Blk.cells [.slice po' s.now.length s.now.length, .map (some n'), .map (some (n' + 1)), .int .u32 s.first, .int .u32 s.most] true) h') = some (.cells [.slice po' s.now.length s.now.length, .map (some n'), .map (some (n' + 1)), .int .u32 s.first, .int .u32 s.most] true) := by
    rw [look_miss (by omega), look_miss (by omega), look_wput_self, hq2]; rfl
  rw [leave_held1 hq3 (by simp [flat, flatN])]
  have hfin : ∀ b', a.next ≤ b' → b' < n' → b' ≠ a.next → RowIs h' b' (.slice po' s.now.length s.now.length) s.now → K (.pointer (some ⟨a.next, 0, none⟩)) ⟨n' + 2, (n' + 1, bg) :: (n', bt) :: putAt a.next (Blk.cells [.slice po' s.now.length s.now.length, .map (some n'), .map (some (n' + 1)), .int .u32 s.first, .int .u32 s.most] true) h', a.base, a.dirty⟩ := fun b' y1 y2 y3 hrow =>
    hK a.next n' (n' + 1) b' _ _ ⟨⟨_, hq3, hrow.keep (by rw [look_miss (by omega), look_miss (by omega), look_wput_ne (by omega)])⟩, by rw [look_miss (by omega), look_self]; exact hbt, by rw [look_self]; exact hbg, by omega, ⟨by omega, by omega, by omega, by omega, by omega, by omega⟩, hwf⟩ (Nat.le_refl _) (by omega) (by omega) y1 (fun j hj => by rw [look_miss (by omega), look_miss (by omega), look_wput_ne (by omega)]; exact y5 j hj)
  rcases x4 with e | hlt
  · have hnil : po' = none ∧ s.now = [] := by
      injection e with e1 e2
      exact ⟨e1, List.eq_nil_of_length_eq_zero e2⟩
    exact hfin (a.next + 1) (by omega) (by omega) (by omega) (.inl ⟨by rw [hnil.1, hnil.2]; rfl, hnil.2⟩)
  · exact hfin (a.next + 2) (by omega) hlt (by omega) x3
end Go.Proofs.YtlbmjpmonaekgaaAM
