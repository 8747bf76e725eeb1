/- Chapter 13: leaving with rows; what the laws use. -/
import Derived.Test.YtijmlgccaicblaaB5
namespace Go.Proofs.YtijmlgccaicblaaAM
open Go Go.RowKit
set_option linter.unusedVariables false
set_option linter.unusedSimpArgs false
set_option maxRecDepth 10000
set_option maxHeartbeats 4000000

section
variable {α β : Type}
/-- A row that is handed back, whatever it is: it stays, or it moves. -/
theorem fresh_rv {enc : α → List Value} {z : Nat} {h : List (Nat × Blk)} {n bs : Nat} {v : Value} {xs : List α} (ho : RV enc z h n v xs) (B : Nat) :
    (v = .slice none 0 0 ∧ xs = []) ∨ flat v = false ∧ (freshOf B ⟨n, h, bs, []⟩ v = none ∨ ∃ c p, freshOf B ⟨n, h, bs, []⟩ v = some (c, p) ∧ ∀ H, RV enc z ((B, .cells c true) :: H) (B + 1) (moveTo B v) xs) := by
  rcases ho with ⟨rfl, rfl⟩ | ⟨b, o, sp, cap, rw0, c, rfl, hb, hbn, hc, ht, hsp, hcap⟩
  · exact .inl ⟨rfl, rfl⟩
  · refine .inr ⟨rfl, ?_⟩
    have hg : (⟨n, h, bs, []⟩ : AW).get b = some (.cells c rw0) := hb
    simp only [freshOf, hg]
    by_cases c1 : B ≤ b
    · rw [if_pos c1]
      cases rw0 with
      | false => exact .inl rfl
      | true =>
        by_cases c3 : c.all flat = true
        · simp only [c3, if_true]
          exact .inr ⟨c, b, rfl, fun H => .inr ⟨B, o, sp, cap, true, c, rfl, look_self, by omega, hc, ht, hsp, hcap⟩⟩
        · simp only [c3]; exact .inl rfl
    · rw [if_neg c1]; exact .inl rfl
theorem leave_rv {enc : α → List Value} {z : Nat} {h : List (Nat × Blk)} {n bs : Nat} {v : Value} {xs : List α} {a : AW} (ho : RV enc z h n v xs) (hn : a.next ≤ n) (hf : ∀ j, j < a.next → look j h = look j a.heap) {K : Value → AW → Prop}
    (hK : ∀ v' n' h', a.next ≤ n' → RV enc z h' n' v' xs → (∀ j, j < a.next → look j h' = look j a.heap) → K v' ⟨n', h', a.base, a.dirty⟩) :
    K (oneOf (leaveA a [v] ⟨n, h, bs, []⟩).1) (leaveA a [v] ⟨n, h, bs, []⟩).2 := by
  rcases fresh_rv (bs := bs) ho a.next with ⟨rfl, rfl⟩ | ⟨hv, hfr | ⟨c, p, hfr, hr⟩⟩
  · rw [leave_flat rfl]
    exact hK _ a.next a.heap (Nat.le_refl _) (.inl ⟨rfl, rfl⟩) fun _ _ => rfl
  · have hlv : leaveA a [v] ⟨n, h, bs, []⟩ = ([v], ⟨n, h, a.base, a.dirty⟩) := by
      rw [leave_1 hv, hfr]
    rw [hlv]
    exact hK _ n h hn ho hf
  · have hlv : leaveA a [v] ⟨n, h, bs, []⟩ = ([moveTo a.next v], ⟨a.next + 1, (a.next, .cells c true) :: a.heap, a.base, a.dirty⟩) := by
      rw [leave_1 hv, hfr]; rfl
    rw [hlv]
    exact hK _ _ _ (by omega) (hr _) fun j hj => look_miss (by omega)
theorem leave_two {enc : α → List Value} {enc' : β → List Value} {z z' : Nat} {h : List (Nat × Blk)} {n bs : Nat} {v u : Value} {xs : List α} {ys : List β} {a : AW} (ho : RV enc z h n v xs) (hu : RV enc' z' h n u ys) (hn : a.next ≤ n) (hf : ∀ j, j < a.next → look j h = look j a.heap) {K : Value → AW → Prop}
    (hK : ∀ v' u' n' h', a.next ≤ n' → RV enc z h' n' v' xs → RV enc' z' h' n' u' ys → (∀ j, j < a.next → look j h' = look j a.heap) → K (.tuple #[v', u']) ⟨n', h', a.base, a.dirty⟩) :
    K (oneOf (leaveA a [v, u] ⟨n, h, bs, []⟩).1) (leaveA a [v, u] ⟨n, h, bs, []⟩).2 := by
  rcases fresh_rv (bs := bs) ho a.next with ⟨rfl, rfl⟩ | ⟨hv, hfr⟩
  · have hn0 : flat (.slice none 0 0) = true := rfl
    rcases fresh_rv (bs := bs) hu a.next with ⟨rfl, rfl⟩ | ⟨hv, hfr | ⟨c, p, hfr, hr⟩⟩
    · rw [leave_flat rfl]
      exact hK _ _ a.next a.heap (Nat.le_refl _) (.inl ⟨rfl, rfl⟩) (.inl ⟨rfl, rfl⟩) fun _ _ => rfl
    · have hlv : leaveA a [.slice none 0 0, u] ⟨n, h, bs, []⟩ = ([.slice none 0 0, u], ⟨n, h, a.base, a.dirty⟩) := by
        rw [leave_2r hv hn0, hfr]
      rw [hlv]
      exact hK _ _ n h hn ho hu hf
    · have hlv : leaveA a [.slice none 0 0, u] ⟨n, h, bs, []⟩ = ([.slice none 0 0, moveTo a.next u], ⟨a.next + 1, (a.next, .cells c true) :: a.heap, a.base, a.dirty⟩) := by
        rw [leave_2r hv hn0, hfr]; rfl
      rw [hlv]
      exact hK _ _ _ _ (by omega) (.inl ⟨rfl, rfl⟩) (hr _) fun j hj => look_miss (by omega)
  · rcases fresh_rv (bs := bs) hu a.next with ⟨rfl, rfl⟩ | ⟨hu2, -⟩
    · have hn0 : flat (.slice none 0 0) = true := rfl
      rcases hfr with hfr | ⟨c, p, hfr, hr⟩
      · have hlv : leaveA a [v, .slice none 0 0] ⟨n, h, bs, []⟩ = ([v, .slice none 0 0], ⟨n, h, a.base, a.dirty⟩) := by
          rw [leave_2l hv hn0, hfr]
        rw [hlv]
        exact hK _ _ n h hn ho hu hf
      · have hlv : leaveA a [v, .slice none 0 0] ⟨n, h, bs, []⟩ = ([moveTo a.next v, .slice none 0 0], ⟨a.next + 1, (a.next, .cells c true) :: a.heap, a.base, a.dirty⟩) := by
          rw [leave_2l hv hn0, hfr]; rfl
        rw [hlv]
        exact hK _ _ _ _ (by omega) (hr _) (.inl ⟨rfl, rfl⟩) fun j hj => look_miss (by omega)
    · have hlv : leaveA a [v, u] ⟨n, h, bs, []⟩ = ([v, u], ⟨n, h, a.base, a.dirty⟩) := by
        exact leave_2b hv hu2
      rw [hlv]
      exact hK _ _ n h hn ho hu hf
theorem RVV.at {enc : α → List Value} {z : Nat} {h : List (Nat × Blk)} {n : Nat} {p : Option Addr} {cp : Nat} {ps : List (List α)} (hv : RVV enc z h n (.slice p ps.length cp) ps) {i : Nat} (hi : i < ps.length) :
    ∃ b o sp rw c q k, p = some ⟨b, o, sp⟩ ∧ look b h = some (.cells c rw) ∧ b < n ∧ c[o + i]? = some (.slice q ps[i].length k) ∧ RV enc z h n (.slice q ps[i].length k) ps[i] := by
  obtain ⟨qs, rfl, h1, h2⟩ := hv
  rw [List.length_map] at h1 hi
  obtain ⟨b, o, sp, rw0, c, rfl, hlk, hbn, hle, hat, hkk⟩ := h1.at encQ_len hi
  have hx := hkk 0 (by omega)
  have h3 := h2 qs[i] (List.getElem_mem hi)
  have e : (qs.map (·.2))[i]'(by rw [List.length_map]; exact hi) = qs[i].2 := List.getElem_map _
  obtain ⟨q, k, hq⟩ := h3.len
  refine ⟨b, o, sp, rw0, c, q, k, rfl, hlk, hbn, ?_, ?_⟩
  · rw [e, ← hq]; simpa [encQ, slV] using hx
  · rw [e, ← hq]; exact h3
end
def lightI (l : List It) : Nat := (l.map fun x => x.key.length + x.val.length).sum
theorem lightI_take (l : List It) (i : Nat) (h : i < l.length) : lightI (l.take (i + 1)) = lightI (l.take i) + (l[i].key.length + l[i].val.length) := by
  unfold lightI
  rw [List.take_add_one, List.getElem?_eq_getElem h]
  simp only [Option.toList_some, List.map_append, List.map_cons, List.map_nil, List.sum_append, List.sum_cons, List.sum_nil, Nat.add_zero]
theorem lightI_upto (l : List It) (i : Nat) : lightI (l.take i) ≤ lightI l := by
  have e : lightI l = lightI (l.take i) + lightI (l.drop i) := by
    unfold lightI
    rw [← List.sum_append, ← List.map_append, List.take_append_drop]
  omega
theorem lightI_mem (l : List It) {x : It} (h : x ∈ l) : x.key.length + x.val.length ≤ lightI l := by
  obtain ⟨i, hi, rfl⟩ := List.mem_iff_getElem.1 h
  have := lightI_take l i hi
  have := lightI_upto l (i + 1)
  omega
theorem light14 (v : Value) (l : List It) (most bytes : Nat) (hmo : most ≤ 10000) (hby : bytes ≤ 1000000) (hl : l.length ≤ 140737488355328) (hx : ∀ x ∈ l, x.key.length ≤ 140737488355328 ∧ x.val.length ≤ 140737488355328) (a : AW) (m : Nat) (hm : m ≤ a.next) (hv : RV encI 5 a.heap m v l) (K : Value → AW → Prop) :
    WCall Try.prog GV 14 [v, .int .i64 most, .int .i64 bytes] a K = K (.bool (decide (l.length ≤ most ∧ lightI l ≤ bytes))) a := by
  refine call_eq ?_ K
  rw [call_env Try.func14 rfl Try.ntmps14 rfl rfl (by simp)]
  obtain ⟨p, c, rfl⟩ := hv.len
  by_cases hlen : l.length ≤ most
  · simp -dsimp (maxSteps := 4000000) (disch := first | omega | assumption | (simp only [FB, Nat.reduceAdd]; done) | (simp only [LB]; omega)) only [EB, ↓reduceIte, WB, Nat.reduceSub, Nat.reduceAdd, Int.reduceEq, Int.reduceNe, Int.reduceLT, Int.reduceLE, Int.reduceAdd, Int.reduceSub, Int.reduceMul, Int.reduceNeg, Int.reduceToNat, Nat.reduceEqDiff, Nat.reduceLT, Nat.reduceLeDiff, Nat.reduceMul, List.replicate, reduceCtorEq, TB, NB, show ¬ (most : Int) < l.length by omega]
    refine loop_inv (fun r t w => ∃ i n, ∃ e : Nat → Value, r = l.length - i ∧ i ≤ l.length ∧ w = ⟨n, a.heap, a.next, []⟩ ∧ a.next ≤ n ∧ t = TT 37 e ∧ lightI (l.take i) ≤ bytes ∧ e 0 = .slice p l.length c ∧ e 2 = .int .i64 bytes ∧ e 7 = .int .i64 (lightI (l.take i)) ∧ e 8 = .int .i64 i) ⟨0, a.next, _, rfl, by omega, rfl, Nat.le_refl _, rfl, Nat.zero_le _, rfl, rfl, rfl, rfl⟩ ?_
    rintro r t w ⟨i, n, e, rfl, hi, rfl, hn, rfl, hby2, t0, t2, t7, t8⟩
    by_cases hlt : i < l.length
    · obtain ⟨b, o, sp, rw0, cc, rfl, hlk, hbn, hle, hat, hkk⟩ := hv.at encI_len hlt
      have hxi := hx l[i] (List.getElem_mem hlt)
      have k0 : cc[o + i * 5]? = some (.string (mkStr l[i].key)) := by have := hkk 0 (by omega); simpa [encI] using this
      have k1 : cc[o + (i * 5 + 1)]? = some (.string (mkStr l[i].val)) := by have := hkk 1 (by omega); rw [← Nat.add_assoc]; simpa [encI] using this
      have hst := lightI_take l i hlt
      have hup := lightI_upto l (i + 1)
      by_cases hb : lightI (l.take (i + 1)) ≤ bytes
      · simp -dsimp (maxSteps := 4000000) (disch := first | omega | assumption | (simp only [FB, Nat.reduceAdd]; done) | (simp only [LB]; omega)) only [EB, ↓reduceIte, WB, Nat.reduceSub, Nat.reduceAdd, Int.reduceEq, Int.reduceNe, Int.reduceLT, Int.reduceLE, Int.reduceAdd, Int.reduceSub, Int.reduceMul, Int.reduceNeg, Int.reduceToNat, Nat.reduceEqDiff, Nat.reduceLT, Nat.reduceLeDiff, Nat.reduceMul, List.replicate, reduceCtorEq, TB, NB, t0, t2, t7, t8, show (i : Int) < l.length by omega]
        refine code_draw [(0, 1), (0, 2), (0, 3), (0, 4), (0, 5), (0, 6), (0, 8), (0, 9), (0, 10), (0, 11), (0, 12), (0, 13), (1, 2), (1, 8), (1, 9), (1, 10), (1, 11), (1, 12), (1, 13), (2, 8), (2, 9), (2, 10), (2, 11), (2, 12), (2, 13), (3, 8), (3, 9), (3, 10), (3, 11), (3, 12), (3, 13), (4, 8), (4, 9), (4, 10), (4, 11), (4, 12), (4, 13), (5, 8), (5, 9), (5, 10), (5, 11), (5, 12), (5, 13), (6, 8), (6, 9), (6, 10), (6, 11), (6, 12), (6, 13), (7, 8), (7, 9), (7, 10), (7, 11), (7, 12), (7, 13), (8, 9)] (by decide +kernel) (by decide +kernel) ?_
        simp -dsimp (maxSteps := 4000000) (disch := first | omega | assumption | (simp only [FB, Nat.reduceAdd]; done) | (simp only [LB]; omega)) only [EB, ↓reduceIte, WB, Nat.reduceSub, Nat.reduceAdd, Int.reduceEq, Int.reduceNe, Int.reduceLT, Int.reduceLE, Int.reduceAdd, Int.reduceSub, Int.reduceMul, Int.reduceNeg, Int.reduceToNat, Nat.reduceEqDiff, Nat.reduceLT, Nat.reduceLeDiff, Nat.reduceMul, List.replicate, reduceCtorEq, RB, Nat.reduceEqDiff, TB, NB, t0, t2, t7, t8, hlk, k0, k1, wrap64, show b < n + 1 by omega, show ¬ (bytes : Int) < (lightI (l.take i) : Int) + l[i].key.length + l[i].val.length by omega]
        refine ⟨l.length - (i + 1), by omega, i + 1, n + 1, _, rfl, by omega, (by first | trivial | rfl | omega), by omega, rfl, hb, ?_⟩
        simp only [ups_at, ↓reduceIte, Nat.reduceEqDiff]; exact ⟨t0, t2, by rw [hst]; congr 1; omega, (by first | trivial | rfl | omega)⟩
      · simp -dsimp (maxSteps := 4000000) (disch := first | omega | assumption | (simp only [FB, Nat.reduceAdd]; done) | (simp only [LB]; omega)) only [EB, ↓reduceIte, WB, Nat.reduceSub, Nat.reduceAdd, Int.reduceEq, Int.reduceNe, Int.reduceLT, Int.reduceLE, Int.reduceAdd, Int.reduceSub, Int.reduceMul, Int.reduceNeg, Int.reduceToNat, Nat.reduceEqDiff, Nat.reduceLT, Nat.reduceLeDiff, Nat.reduceMul, List.replicate, reduceCtorEq, TB, NB, t0, t2, t7, t8, show (i : Int) < l.length by omega]
        refine code_draw [(0, 1), (0, 2), (0, 3), (0, 4), (0, 5), (0, 6), (0, 8), (0, 9), (0, 10), (0, 11), (0, 12), (0, 13), (1, 2), (1, 8), (1, 9), (1, 10), (1, 11), (1, 12), (1, 13), (2, 8), (2, 9), (2, 10), (2, 11), (2, 12), (2, 13), (3, 8), (3, 9), (3, 10), (3, 11), (3, 12), (3, 13), (4, 8), (4, 9), (4, 10), (4, 11), (4, 12), (4, 13), (5, 8), (5, 9), (5, 10), (5, 11), (5, 12), (5, 13), (6, 8), (6, 9), (6, 10), (6, 11), (6, 12), (6, 13), (7, 8), (7, 9), (7, 10), (7, 11), (7, 12), (7, 13), (8, 9)] (by decide +kernel) (by decide +kernel) ?_
        simp -dsimp (maxSteps := 4000000) (disch := first | omega | assumption | (simp only [FB, Nat.reduceAdd]; done) | (simp only [LB]; omega)) only [EB, ↓reduceIte, WB, Nat.reduceSub, Nat.reduceAdd, Int.reduceEq, Int.reduceNe, Int.reduceLT, Int.reduceLE, Int.reduceAdd, Int.reduceSub, Int.reduceMul, Int.reduceNeg, Int.reduceToNat, Nat.reduceEqDiff, Nat.reduceLT, Nat.reduceLeDiff, Nat.reduceMul, List.replicate, reduceCtorEq, RB, Nat.reduceEqDiff, TB, NB, t0, t2, t7, t8, hlk, k0, k1, wrap64, show b < n + 1 by omega, show (bytes : Int) < (lightI (l.take i) : Int) + l[i].key.length + l[i].val.length by omega]
        rw [decide_eq_false fun h => by omega]
    · obtain rfl : i = l.length := by omega
      rw [List.take_length] at hby2
      simp -dsimp (maxSteps := 4000000) (disch := first | omega | assumption | (simp only [FB, Nat.reduceAdd]; done) | (simp only [LB]; omega)) only [EB, ↓reduceIte, WB, Nat.reduceSub, Nat.reduceAdd, Int.reduceEq, Int.reduceNe, Int.reduceLT, Int.reduceLE, Int.reduceAdd, Int.reduceSub, Int.reduceMul, Int.reduceNeg, Int.reduceToNat, Nat.reduceEqDiff, Nat.reduceLT, Nat.reduceLeDiff, Nat.reduceMul, List.replicate, reduceCtorEq, TB, NB, t0, t2, t7, t8, show ¬ (l.length : Int) < l.length by omega]
      rw [decide_eq_true ⟨hlen, hby2⟩]
      exact ⟨(by first | trivial | rfl | omega), (by first | trivial | rfl | omega)⟩
  · simp -dsimp (maxSteps := 4000000) (disch := first | omega | assumption | (simp only [FB, Nat.reduceAdd]; done) | (simp only [LB]; omega)) only [EB, ↓reduceIte, WB, Nat.reduceSub, Nat.reduceAdd, Int.reduceEq, Int.reduceNe, Int.reduceLT, Int.reduceLE, Int.reduceAdd, Int.reduceSub, Int.reduceMul, Int.reduceNeg, Int.reduceToNat, Nat.reduceEqDiff, Nat.reduceLT, Nat.reduceLeDiff, Nat.reduceMul, List.replicate, reduceCtorEq, TB, NB, show (most : Int) < l.length by omega]
    rw [decide_eq_false fun h => hlen h.1]
    exact ⟨(by first | trivial | rfl | omega), (by first | trivial | rfl | omega)⟩
theorem size17 (v : Value) (l : List It) (hl : l.length ≤ 5000000000000) (hs : sizeI l ≤ 4611686018427387904) (hx : ∀ x ∈ l, x.key.length ≤ 140737488355328 ∧ x.val.length ≤ 140737488355328) (a : AW) (m : Nat) (hm : m ≤ a.next) (hv : RV encI 5 a.heap m v l) (K : Value → AW → Prop) :
    WCall Try.prog GV 17 [v] a K = K (.int .i64 (sizeI l)) a := by
  refine call_eq ?_ K
  rw [call_env Try.func17 rfl Try.ntmps17 rfl rfl (by simp)]
  obtain ⟨pp, c, rfl⟩ := hv.len
  simp -dsimp (maxSteps := 4000000) (disch := first | omega | assumption | (simp only [FB, Nat.reduceAdd]; done) | (simp only [LB]; omega)) only [EB, ↓reduceIte, WB, Nat.reduceSub, Nat.reduceAdd, Int.reduceEq, Int.reduceNe, Int.reduceLT, Int.reduceLE, Int.reduceAdd, Int.reduceSub, Int.reduceMul, Int.reduceNeg, Int.reduceToNat, Nat.reduceEqDiff, Nat.reduceLT, Nat.reduceLeDiff, Nat.reduceMul, List.replicate, reduceCtorEq, TB, NB, ]
  refine loop_inv (fun r t w => ∃ i, ∃ e : Nat → Value, r = l.length - i ∧ i ≤ l.length ∧ w = ⟨a.next, a.heap, a.next, []⟩ ∧ t = TT 19 e ∧ e 0 = .slice pp l.length c ∧ e 3 = .int .i64 (sizeI (l.take i)) ∧ e 4 = .int .i64 i) ⟨0, _, rfl, by omega, rfl, rfl, rfl, rfl, rfl⟩ ?_
  rintro r t w ⟨i, e, rfl, hi, rfl, rfl, t0, t3, t4⟩
  by_cases hlt : i < l.length
  · obtain ⟨b, o, sp, rw0, cc, rfl, hlk, hbn, hle, hat, -⟩ := hv.at encI_len hlt
    have hst := sizeI_take l i hlt
    have hsl := sizeI_upto l (i + 1)
    have hxi := hx l[i] (List.getElem_mem hlt)
    have h1' := fun a K => one18 l[i] hxi.1 hxi.2 a K
    simp -dsimp (maxSteps := 4000000) (disch := first | omega | assumption | (simp only [FB, Nat.reduceAdd]; done) | (simp only [LB]; omega)) only [EB, ↓reduceIte, WB, Nat.reduceSub, Nat.reduceAdd, Int.reduceEq, Int.reduceNe, Int.reduceLT, Int.reduceLE, Int.reduceAdd, Int.reduceSub, Int.reduceMul, Int.reduceNeg, Int.reduceToNat, Nat.reduceEqDiff, Nat.reduceLT, Nat.reduceLeDiff, Nat.reduceMul, List.replicate, reduceCtorEq, TB, NB, t0, t3, t4, show (i : Int) < l.length by omega, hlk, hat, h1', wrap64]
    refine ⟨trivial, l.length - (i + 1), by omega, i + 1, _, rfl, by omega, (by first | trivial | rfl | omega), rfl, ?_⟩
    simp only [ups_at, ↓reduceIte, Nat.reduceEqDiff]
    exact ⟨t0, by rw [hst]; congr 1, (by first | trivial | rfl | omega)⟩
  · obtain rfl : i = l.length := by omega
    rw [List.take_length] at t3
    simp -dsimp (maxSteps := 4000000) (disch := first | omega | assumption | (simp only [FB, Nat.reduceAdd]; done) | (simp only [LB]; omega)) only [EB, ↓reduceIte, WB, Nat.reduceSub, Nat.reduceAdd, Int.reduceEq, Int.reduceNe, Int.reduceLT, Int.reduceLE, Int.reduceAdd, Int.reduceSub, Int.reduceMul, Int.reduceNeg, Int.reduceToNat, Nat.reduceEqDiff, Nat.reduceLT, Nat.reduceLeDiff, Nat.reduceMul, List.replicate, reduceCtorEq, TB, NB, t0, t3, t4, show ¬ (l.length : Int) < l.length by omega]
    exact ⟨trivial, trivial⟩
theorem need21 (size : Int) (n : Int) (h1 : -9223372036854775808 ≤ n) (h2 : n ≤ 9223372036854775807) (a : AW) (K) : WCall Try.prog GV 21 [.int .i64 size, .int .i64 n] a K = K (.int .i64 (if goodSz size ∧ 1 ≤ n then (n - 1).tdiv (size - 24) + 1 else 0)) a := by
  rw [call_env Try.func21 rfl Try.ntmps21 rfl rfl (by simp)]
  by_cases hg : goodSz size
  · have hr : room size = size - 24 := by unfold room; rw [if_pos hg]
    have hg' := hg
    simp only [goodSz] at hg'
    by_cases hn : n < 1
    · simp -dsimp (maxSteps := 4000000) (disch := first | omega | assumption | (simp only [FB, Nat.reduceAdd]; done) | (simp only [LB]; omega)) only [EB, ↓reduceIte, WB, Nat.reduceSub, Nat.reduceAdd, Int.reduceEq, Int.reduceNe, Int.reduceLT, Int.reduceLE, Int.reduceAdd, Int.reduceSub, Int.reduceMul, Int.reduceNeg, Int.reduceToNat, Nat.reduceEqDiff, Nat.reduceLT, Nat.reduceLeDiff, Nat.reduceMul, List.replicate, reduceCtorEq, TB, NB, good42, hg, hn]
      simp [hn, show ¬ 1 ≤ n by omega]
    · have hd : 0 ≤ (n - 1).tdiv (size - 24) := Int.tdiv_nonneg (by omega) (by omega)
      have hd2 : (n - 1).tdiv (size - 24) ≤ n - 1 := by rw [Int.tdiv_eq_ediv_of_nonneg (by omega)]; exact Int.ediv_le_self _ (by omega)
      simp -dsimp (maxSteps := 4000000) (disch := first | omega | assumption | (simp only [FB, Nat.reduceAdd]; done) | (simp only [LB]; omega)) only [EB, ↓reduceIte, WB, Nat.reduceSub, Nat.reduceAdd, Int.reduceEq, Int.reduceNe, Int.reduceLT, Int.reduceLE, Int.reduceAdd, Int.reduceSub, Int.reduceMul, Int.reduceNeg, Int.reduceToNat, Nat.reduceEqDiff, Nat.reduceLT, Nat.reduceLeDiff, Nat.reduceMul, List.replicate, reduceCtorEq, TB, NB, good42, room16, hr, hg, hn, wrap64, bin_quo (show size - 24 ≠ 0 by omega)]
      simp [hg, show 1 ≤ n by omega]
  · simp -dsimp (maxSteps := 4000000) (disch := first | omega | assumption | (simp only [FB, Nat.reduceAdd]; done) | (simp only [LB]; omega)) only [EB, ↓reduceIte, WB, Nat.reduceSub, Nat.reduceAdd, Int.reduceEq, Int.reduceNe, Int.reduceLT, Int.reduceLE, Int.reduceAdd, Int.reduceSub, Int.reduceMul, Int.reduceNeg, Int.reduceToNat, Nat.reduceEqDiff, Nat.reduceLT, Nat.reduceLeDiff, Nat.reduceMul, List.replicate, reduceCtorEq, TB, NB, good42, hg]
    simp [hg]
end Go.Proofs.YtijmlgccaicblaaAM
