/- Chapter 13: parts of items, one behind the other; equal lists. -/
import Derived.Test.YtijmlgccaicblaaB6
namespace Go.Proofs.YtijmlgccaicblaaAM
open Go Go.RowKit
set_option linter.unusedVariables false
set_option linter.unusedSimpArgs false
set_option maxRecDepth 10000
set_option maxHeartbeats 4000000

section
variable {α : Type}
theorem OwnS.renew {enc : α → List Value} {z : Nat} {h : List (Nat × Blk)} {n q : Nat} {v : Value} {xs : List α} (ho : OwnS enc z h n q v xs) (N : Nat) (hN : n ≤ N) : ∃ q', OwnS enc z h n q' v xs ∧ (q' = q ∧ q < n ∨ q' = N ∧ v = .slice none 0 0 ∧ xs = []) := by
  rcases ho with ⟨e5, e6⟩ | hs5
  · exact ⟨N, .inl ⟨e5, e6⟩, .inr ⟨rfl, e5, e6⟩⟩
  · have : q < n := by obtain ⟨_, _, _, _, _, _, _, _, _, h7, _⟩ := hs5; exact h7
    exact ⟨q, .inr hs5, .inl ⟨rfl, this⟩⟩
def endsOf (ps : List (List α)) : List Int := (List.range ps.length).map fun i => ((ps.take (i + 1)).flatten.length : Int)
theorem endsOf_len (ps : List (List α)) : (endsOf ps).length = ps.length := by simp [endsOf]
theorem take_flatten (ps : List (List α)) (i : Nat) (h : i < ps.length) : (ps.take (i + 1)).flatten = (ps.take i).flatten ++ ps[i] := by
  rw [List.take_add_one, List.getElem?_eq_getElem h, List.flatten_append]; simp only [Option.toList_some, List.flatten_cons, List.flatten_nil, List.append_nil]
theorem take_flatten_le (ps : List (List α)) (i : Nat) : (ps.take i).flatten.length ≤ ps.flatten.length := by
  have : ps.flatten = (ps.take i).flatten ++ (ps.drop i).flatten := by rw [← List.flatten_append, List.take_append_drop]
  rw [this, List.length_append]; omega
theorem ends_take (ps : List (List α)) (i : Nat) (h : i < ps.length) : endsOf (ps.take (i + 1)) = endsOf (ps.take i) ++ [((ps.take (i + 1)).flatten.length : Int)] := by
  unfold endsOf
  rw [List.length_take, List.length_take, Nat.min_eq_left (by omega), Nat.min_eq_left (by omega), List.range_succ, List.map_append]
  congr 1
  · refine List.map_congr_left fun j hj => ?_
    rw [List.mem_range] at hj
    rw [List.take_take, List.take_take, Nat.min_eq_left (by omega), Nat.min_eq_left (by omega)]
  · simp only [List.map_cons, List.map_nil]
    rw [List.take_take, Nat.min_self]
end
theorem neq3 {t : List Value} {x y} {b b' : Int} : binA Try.prog .neq 3 x y (.int .i64 b) (.int .i64 b') = some (.bool (!decide (b = b'))) := bin_neq
theorem flat19 (v : Value) (ps : List (List It)) (hl : ps.length ≤ 100000) (hl2 : ps.flatten.length ≤ 100000) (a : AW) (m : Nat) (hm : m ≤ a.next) (hv : RVV encI 5 a.heap m v ps) (K : Value → AW → Prop)
    (hK : ∀ v1 v2 n' h', a.next ≤ n' → RV encI 5 h' n' v1 ps.flatten → RV encN 1 h' n' v2 (endsOf ps) → (∀ j, j < a.next → look j h' = look j a.heap) → K (.tuple #[v1, v2]) ⟨n', h', a.base, a.dirty⟩) :
    WCall Try.prog GV 19 [v] a K := by
  rw [call_env Try.func19 rfl Try.ntmps19 rfl rfl (by simp)]
  obtain ⟨pp, c, rfl⟩ := hv.len
  simp -dsimp (maxSteps := 4000000) (disch := first | omega | assumption | (simp only [FB, Nat.reduceAdd]; done) | (simp only [LB]; omega)) only [EB, ↓reduceIte, WB, Nat.reduceSub, Nat.reduceAdd, Int.reduceEq, Int.reduceNe, Int.reduceLT, Int.reduceLE, Int.reduceAdd, Int.reduceSub, Int.reduceMul, Int.reduceNeg, Int.reduceToNat, Nat.reduceEqDiff, Nat.reduceLT, Nat.reduceLeDiff, Nat.reduceMul, List.replicate, reduceCtorEq, TB, NB, ]
  refine loop_inv (fun r t w => ∃ i n h q1 v1 q2 v2, ∃ e : Nat → Value, r = ps.length - i ∧ i ≤ ps.length ∧ w = ⟨n, h, a.next, []⟩ ∧ a.next ≤ n ∧ (∀ j, j < a.next → look j h = look j a.heap) ∧ t = TT 26 e ∧ OwnS encI 5 h n q1 v1 (ps.take i).flatten ∧ OwnS encN 1 h n q2 v2 (endsOf (ps.take i)) ∧ a.next ≤ q1 ∧ a.next ≤ q2 ∧ (q1 < n → q2 < n → q1 ≠ q2) ∧
    e 0 = .slice pp ps.length c ∧ e 4 = v1 ∧ e 5 = v2 ∧ e 6 = .int .i64 i)
    ⟨0, a.next, a.heap, a.next, _, a.next, _, _, rfl, by omega, rfl, Nat.le_refl _, fun _ _ => rfl, rfl, OwnS.nil, OwnS.nil, Nat.le_refl _, Nat.le_refl _, fun h => absurd h (by omega), rfl, rfl, rfl, rfl⟩ ?_
  rintro r t w ⟨i, n, h, q1, v1, q2, v2, e, rfl, hi, rfl, hn, hh, rfl, ho1, ho2, hq1, hq2, hq12, t0, t4, t5, t6⟩
  by_cases hlt : i < ps.length
  · obtain ⟨b, o, sp, rw0, cc, pq, pk, rfl, hlk, hbn, hx, hr⟩ := hv.at hlt
    have hlk' : look b h = some (.cells cc rw0) := by rw [hh b (by omega)]; exact hlk
    have hrn : RV encI 5 h n (.slice pq ps[i].length pk) ps[i] := hr.keep (by omega) fun j hj => hh j (by omega)
    have htk := take_flatten ps i hlt
    have htl := take_flatten_le ps (i + 1)
    obtain ⟨r1, s1, s2⟩ := ho1.renew (n + 1) (by omega)
    obtain ⟨r2, z1, z2⟩ := ho2.renew (n + 2) (by omega)
    obtain ⟨v3, q3, n3, h3, e3, o3, f1, f2, f3, f4, f5⟩ := append_mine (E := Try.prog) (t0 := 31) (t1 := 31) (bs := a.next) (d := []) app31 encI_len encI_one s1 (by omega) (by omega) hrn (by rw [← List.length_append, ← htk]; omega)
    rw [← htk] at o3
    obtain ⟨p3, c3, hv3⟩ := o3.len
    subst hv3
    simp -dsimp (maxSteps := 4000000) (disch := first | omega | assumption | (simp only [FB, Nat.reduceAdd]; done) | (simp only [LB]; omega)) only [EB, ↓reduceIte, WB, Nat.reduceSub, Nat.reduceAdd, Int.reduceEq, Int.reduceNe, Int.reduceLT, Int.reduceLE, Int.reduceAdd, Int.reduceSub, Int.reduceMul, Int.reduceNeg, Int.reduceToNat, Nat.reduceEqDiff, Nat.reduceLT, Nat.reduceLeDiff, Nat.reduceMul, List.replicate, reduceCtorEq, TB, NB, t0, t4, t5, t6, show (i : Int) < ps.length by omega, hlk', hx, e3]
    have ho2' : OwnS encN 1 ((n3, Blk.cells [Value.int IntKind.i64 ((ps.take (i + 1)).flatten.length : Nat)] true) :: h3) (n3 + 1) r2 v2 (endsOf (ps.take i)) := z1.keep (by omega) fun hq => by rw [look_miss (by omega), f5 r2 (by omega) (by omega)]
    obtain ⟨r4, y1, y2⟩ := ho2'.renew (n3 + 2) (by omega)
    obtain ⟨v5, q5, n5, h5, e5, o5, g1, g2, g3, g4, g5⟩ := append_mine (E := Try.prog) (t0 := 25) (t1 := 25) (bs := a.next) (d := []) app25 encN_len encN_one y1 (by omega) (by omega) (RV.one (n := n3 + 1) (x := ((ps.take (i + 1)).flatten.length : Int)) encN_len look_self (by omega)) (by rw [endsOf_len]; simp only [List.length_take, List.length_cons, List.length_nil]; omega)
    rw [e5]
    simp -dsimp (maxSteps := 4000000) (disch := first | omega | assumption | (simp only [FB, Nat.reduceAdd]; done) | (simp only [LB]; omega)) only [EB, ↓reduceIte, WB, Nat.reduceSub, Nat.reduceAdd, Int.reduceEq, Int.reduceNe, Int.reduceLT, Int.reduceLE, Int.reduceAdd, Int.reduceSub, Int.reduceMul, Int.reduceNeg, Int.reduceToNat, Nat.reduceEqDiff, Nat.reduceLT, Nat.reduceLeDiff, Nat.reduceMul, List.replicate, reduceCtorEq, TB, NB, t6, wrap64]
    rw [← ends_take ps i hlt] at o5
    obtain ⟨r7, x0, x2⟩ := o3.renew (n5 + 5) (by omega)
    have x1 : OwnS encI 5 h5 n5 r7 (.slice p3 (ps.take (i + 1)).flatten.length c3) (ps.take (i + 1)).flatten := by
      rcases x2 with ⟨rfl, x3⟩ | ⟨rfl, x3, x4⟩
      · exact o3.keep (by omega) fun hq => by rw [g5 _ (by omega) (by omega), look_miss (by omega)]
      · exact .inl ⟨x3, x4⟩
    obtain ⟨r8, x5, x6⟩ := o5.renew (n5 + 2) (by omega)
    refine ⟨trivial, ps.length - (i + 1), by omega, i + 1, n5, h5, r7, _, r8, _, _, rfl, by omega, rfl, by omega, fun j hj => by rw [g5 j (by omega) (by omega), look_miss (by omega), f5 j (by omega) (by omega), hh j hj], rfl, x1, x5, by omega, by omega, fun _ _ => by omega, ?_⟩
    simp only [ups_at, ↓reduceIte, Nat.reduceEqDiff]
    exact ⟨t0, trivial, trivial, (by first | trivial | rfl | omega)⟩
  · obtain rfl : i = ps.length := by omega
    rw [List.take_length] at ho1 ho2
    simp -dsimp (maxSteps := 4000000) (disch := first | omega | assumption | (simp only [FB, Nat.reduceAdd]; done) | (simp only [LB]; omega)) only [EB, ↓reduceIte, WB, Nat.reduceSub, Nat.reduceAdd, Int.reduceEq, Int.reduceNe, Int.reduceLT, Int.reduceLE, Int.reduceAdd, Int.reduceSub, Int.reduceMul, Int.reduceNeg, Int.reduceToNat, Nat.reduceEqDiff, Nat.reduceLT, Nat.reduceLeDiff, Nat.reduceMul, List.replicate, reduceCtorEq, TB, NB, t0, t4, t5, t6, show ¬ (ps.length : Int) < ps.length by omega]
    exact leave_two (a := a) ho1.rv ho2.rv hn hh fun w1 w2 n' h' x1 x2 x3 x4 => hK w1 w2 n' h' x1 x2 x3 x4
deriving instance DecidableEq for It
theorem eqS42 (x y : It) : eqS Try.prog 42 (encI x).toArray (encI y).toArray = some (decide (x = y)) := by
  obtain ⟨a, b, c, d, e⟩ := x
  obtain ⟨a', b', c', d', e'⟩ := y
  have h1 : (decide (a = a') && (decide (b = b') && (decide (c = c') && (decide (d = d') && decide (e = e'))))) = decide (It.mk a b c d e = It.mk a' b' c' d' e') := by simp only [It.mk.injEq, Bool.decide_and]
  rw [← h1, eqS_key (L := [(false, 9, 0), (false, 9, 1), (false, 4, 2), (false, 3, 3), (false, 40, 4)]) ⟨_, rfl, by decide +kernel, by decide +kernel⟩, encI, encI]
  simp only [key_cons, key_nil, part_one agg3, part_one agg40, part_one agg9, part_one agg4, List.getElem?_cons_zero, List.getElem?_cons_succ, Option.bind_some, eq_int und3, eq_int und40, eq_str und9, eq_bool und4, ite_and, Bool.and_true]
theorem neq42 {x y} {b b' : It} : binA Try.prog .neq 42 x y (.agg (encI b).toArray) (.agg (encI b').toArray) = some (.bool (!decide (b = b'))) := bin_neq_agg rfl rfl (by decide +kernel) (eqS42 b b')
theorem same20 (v u : Value) (l k : List It) (hl : l.length ≤ 1000000) (a : AW) (m : Nat) (hm : m ≤ a.next) (hv : RV encI 5 a.heap m v l) (hu : RV encI 5 a.heap m u k) (K : Value → AW → Prop) :
    WCall Try.prog GV 20 [v, u] a K = K (.bool (decide (l = k))) a := by
  refine call_eq ?_ K
  rw [call_env Try.func20 rfl Try.ntmps20 rfl rfl (by simp)]
  obtain ⟨p, c, rfl⟩ := hv.len
  obtain ⟨p', c', rfl⟩ := hu.len
  by_cases hlen : l.length = k.length
  · simp -dsimp (maxSteps := 4000000) (disch := first | omega | assumption | (simp only [FB, Nat.reduceAdd]; done) | (simp only [LB]; omega)) only [EB, ↓reduceIte, WB, Nat.reduceSub, Nat.reduceAdd, Int.reduceEq, Int.reduceNe, Int.reduceLT, Int.reduceLE, Int.reduceAdd, Int.reduceSub, Int.reduceMul, Int.reduceNeg, Int.reduceToNat, Nat.reduceEqDiff, Nat.reduceLT, Nat.reduceLeDiff, Nat.reduceMul, List.replicate, reduceCtorEq, TB, NB, hlen]
    refine loop_inv (fun r t w => ∃ i n, ∃ e : Nat → Value, r = l.length - i ∧ i ≤ l.length ∧ w = ⟨n, a.heap, a.next, []⟩ ∧ a.next ≤ n ∧ t = TT 26 e ∧ (∀ j (h1 : j < l.length) (h2 : j < k.length), j < i → l[j] = k[j]) ∧ e 0 = .slice p k.length c ∧ e 1 = .slice p' k.length c' ∧ e 5 = .int .i64 i) ⟨0, a.next, _, rfl, by omega, rfl, Nat.le_refl _, rfl, fun j _ _ h => absurd h (by omega), rfl, rfl, rfl⟩ ?_
    rintro r t w ⟨i, n, e, rfl, hi, rfl, hn, rfl, hb, t0, t1, t5⟩
    by_cases hlt : i < l.length
    · have hlt2 : i < k.length := by omega
      obtain ⟨b, o, sp, rw0, cc, rfl, hlk, hbn, hle, hat, -⟩ := hv.at encI_len hlt
      obtain ⟨b', o', sp', rw0', cc', rfl, hlk', hbn', hle', hat', -⟩ := hu.at encI_len hlt2
      by_cases he : l[i] = k[i]
      · simp -dsimp (maxSteps := 4000000) (disch := first | omega | assumption | (simp only [FB, Nat.reduceAdd]; done) | (simp only [LB]; omega)) only [EB, ↓reduceIte, WB, Nat.reduceSub, Nat.reduceAdd, Int.reduceEq, Int.reduceNe, Int.reduceLT, Int.reduceLE, Int.reduceAdd, Int.reduceSub, Int.reduceMul, Int.reduceNeg, Int.reduceToNat, Nat.reduceEqDiff, Nat.reduceLT, Nat.reduceLeDiff, Nat.reduceMul, List.replicate, reduceCtorEq, TB, NB, t0, t1, t5, show (i : Int) < k.length by omega]
        refine code_draw [(0, 1), (0, 4), (0, 5), (0, 6), (0, 7), (1, 4), (1, 5), (1, 6), (1, 7), (2, 4), (2, 5), (2, 6), (2, 7), (3, 4), (3, 5), (3, 6), (3, 7), (4, 5)] (by decide +kernel) (by decide +kernel) ?_
        simp -dsimp (maxSteps := 4000000) (disch := first | omega | assumption | (simp only [FB, Nat.reduceAdd]; done) | (simp only [LB]; omega)) only [EB, ↓reduceIte, WB, Nat.reduceSub, Nat.reduceAdd, Int.reduceEq, Int.reduceNe, Int.reduceLT, Int.reduceLE, Int.reduceAdd, Int.reduceSub, Int.reduceMul, Int.reduceNeg, Int.reduceToNat, Nat.reduceEqDiff, Nat.reduceLT, Nat.reduceLeDiff, Nat.reduceMul, List.replicate, reduceCtorEq, RB, Nat.reduceEqDiff, TB, NB, t0, t1, t5, hlk, hlk', hat, hat', neq42, decide_eq_true he, wrap64, show b < n + 1 by omega, show b' < n + 1 by omega]
        refine ⟨l.length - (i + 1), by omega, i + 1, n + 1, _, rfl, by omega, (by first | trivial | rfl | omega), by omega, rfl, fun j h1 h2' hj => ?_, ?_⟩
        · have h2 : j < k.length := by omega
          rcases Nat.lt_or_ge j i with h | h
          · exact hb j h1 h2 h
          · obtain rfl : j = i := by omega
            exact he
        · simp only [ups_at, ↓reduceIte, Nat.reduceEqDiff]; exact ⟨t0, t1, (by first | trivial | rfl | omega)⟩
      · simp -dsimp (maxSteps := 4000000) (disch := first | omega | assumption | (simp only [FB, Nat.reduceAdd]; done) | (simp only [LB]; omega)) only [EB, ↓reduceIte, WB, Nat.reduceSub, Nat.reduceAdd, Int.reduceEq, Int.reduceNe, Int.reduceLT, Int.reduceLE, Int.reduceAdd, Int.reduceSub, Int.reduceMul, Int.reduceNeg, Int.reduceToNat, Nat.reduceEqDiff, Nat.reduceLT, Nat.reduceLeDiff, Nat.reduceMul, List.replicate, reduceCtorEq, TB, NB, t0, t1, t5, show (i : Int) < k.length by omega]
        refine code_draw [(0, 1), (0, 4), (0, 5), (0, 6), (0, 7), (1, 4), (1, 5), (1, 6), (1, 7), (2, 4), (2, 5), (2, 6), (2, 7), (3, 4), (3, 5), (3, 6), (3, 7), (4, 5)] (by decide +kernel) (by decide +kernel) ?_
        simp -dsimp (maxSteps := 4000000) (disch := first | omega | assumption | (simp only [FB, Nat.reduceAdd]; done) | (simp only [LB]; omega)) only [EB, ↓reduceIte, WB, Nat.reduceSub, Nat.reduceAdd, Int.reduceEq, Int.reduceNe, Int.reduceLT, Int.reduceLE, Int.reduceAdd, Int.reduceSub, Int.reduceMul, Int.reduceNeg, Int.reduceToNat, Nat.reduceEqDiff, Nat.reduceLT, Nat.reduceLeDiff, Nat.reduceMul, List.replicate, reduceCtorEq, RB, Nat.reduceEqDiff, TB, NB, t0, t1, t5, hlk, hlk', hat, hat', neq42, decide_eq_false he, wrap64, show b < n + 1 by omega, show b' < n + 1 by omega]
        rw [decide_eq_false fun h => he (by subst h; rfl)]
    · have hi2 : i = l.length := by omega
      have hlk : l = k := List.ext_getElem hlen fun j h1 h2 => hb j h1 h2 (by omega)
      simp -dsimp (maxSteps := 4000000) (disch := first | omega | assumption | (simp only [FB, Nat.reduceAdd]; done) | (simp only [LB]; omega)) only [EB, ↓reduceIte, WB, Nat.reduceSub, Nat.reduceAdd, Int.reduceEq, Int.reduceNe, Int.reduceLT, Int.reduceLE, Int.reduceAdd, Int.reduceSub, Int.reduceMul, Int.reduceNeg, Int.reduceToNat, Nat.reduceEqDiff, Nat.reduceLT, Nat.reduceLeDiff, Nat.reduceMul, List.replicate, reduceCtorEq, TB, NB, t0, t1, t5, show ¬ (i : Int) < k.length by omega]
      rw [decide_eq_true hlk]
      exact ⟨(by first | trivial | rfl | omega), (by first | trivial | rfl | omega)⟩
  · simp -dsimp (maxSteps := 4000000) (disch := first | omega | assumption | (simp only [FB, Nat.reduceAdd]; done) | (simp only [LB]; omega)) only [EB, ↓reduceIte, WB, Nat.reduceSub, Nat.reduceAdd, Int.reduceEq, Int.reduceNe, Int.reduceLT, Int.reduceLE, Int.reduceAdd, Int.reduceSub, Int.reduceMul, Int.reduceNeg, Int.reduceToNat, Nat.reduceEqDiff, Nat.reduceLT, Nat.reduceLeDiff, Nat.reduceMul, List.replicate, reduceCtorEq, TB, NB, show ¬ (l.length : Int) = k.length by omega]
    rw [decide_eq_false fun h => hlen (by rw [h])]
    exact ⟨(by first | trivial | rfl | omega), (by first | trivial | rfl | omega)⟩
end Go.Proofs.YtijmlgccaicblaaAM
