/- Chapter 26: the reference's one pair more. -/
import Derived.Test.YtdgpniekpmoadaaM6
namespace Go.Proofs.YtdgpniekpmoadaaAM
open Go Go.RowKit
set_option linter.unusedVariables false
set_option linter.unusedSimpArgs false
set_option maxRecDepth 10000
set_option maxHeartbeats 4000000

theorem soil_not {bs q i : Nat} {d' : List Nat} (h : d' = [] ∨ d' = soilW bs [] q) (hq : i ≠ q) : d'.contains i = false := by
  rcases h with rfl | rfl
  · rfl
  · unfold soilW; split <;> simp [hq]
theorem addS_len (l : List Pr) (x : Pr) : l.length ≤ (addS l x).length ∧ (addS l x).length ≤ l.length + 1 := by
  unfold addS
  split
  · omega
  · rw [(insP_perm x l).length_eq, List.length_cons]; omega
theorem put28 (v : Value) (l : List Pr) (x : Pr) (hs : SrtP l) (hl : l.length ≤ 100000) (a : AW) (m : Nat) (hm : m ≤ a.next) (hv : RV encPr 2 a.heap m v l) (K : Value → AW → Prop)
    (hK : ∀ v' n' h', a.next ≤ n' → RV encPr 2 h' n' v' (addS l x) → (∀ j, j < a.next → look j h' = look j a.heap) → K (.tuple #[v', .bool (!hasK l x.key)]) ⟨n', h', a.base, a.dirty⟩) :
    WCall Try.prog GV 28 [v, .agg (encPr x).toArray] a K := by
  rw [call_env Try.func28 rfl Try.ntmps28 rfl rfl (by simp), encPr]
  obtain ⟨pp, c, rfl⟩ := hv.len
  simp -dsimp (maxSteps := 4000000) (disch := first | omega | assumption | (simp only [FB, Nat.reduceAdd]; done) | (simp only [LB]; omega)) only [EB, ↓reduceIte, WB, Nat.reduceSub, Nat.reduceAdd, Int.reduceEq, Int.reduceNe, Int.reduceLT, Int.reduceLE, Int.reduceAdd, Int.reduceSub, Int.reduceMul, Int.reduceNeg, Int.reduceToNat, Nat.reduceEqDiff, Nat.reduceLT, Nat.reduceLeDiff, Nat.reduceMul, List.replicate, reduceCtorEq, TB, NB, MB, ]
  refine loop_inv (fun r t w => ∃ k n, ∃ e : Nat → Value, r = k ∧ k ≤ l.length ∧ (∃ h, w = ⟨n, h, a.next, []⟩ ∧ a.next < n ∧ (∀ j, j < a.next → look j h = look j a.heap) ∧ look a.next h = some (.cells [.string (mkStr x.key), .string (mkStr x.val)] true)) ∧ t = TT 50 e ∧ (∀ j (hj : j < l.length), k ≤ j → x.key < l[j].key) ∧ e 0 = .slice pp l.length c ∧ e 3 = .pointer (some ⟨a.next, 0, none⟩) ∧ e 4 = .slice none 0 0 ∧ e 5 = .bool false ∧ e 6 = .int .i64 (k : Nat))
    ⟨l.length, a.next + 1, _, rfl, Nat.le_refl _, ⟨_, rfl, by omega, fun j hj => look_miss (by omega), look_self⟩, rfl, fun j h1 h2 => absurd h1 (by omega), rfl, rfl, rfl, rfl, rfl⟩ ?_
  rintro k t w ⟨k0, n, e, rfl, hk, ⟨h, rfl, hn, hf, hb⟩, rfl, hup, t0, t3, t4, t5, t6⟩
  have hins : (k = 0 ∨ ∃ h : k - 1 < l.length, l[k - 1].key < x.key) → l.take k ++ x :: l.drop k = addS l x ∧ hasK l x.key = false := fun h2 => by
    refine ⟨ins_at hs x k hk hup h2, ?_⟩
    cases hc : hasK l x.key with
    | false => rfl
    | true =>
      have h3 := ins_at hs x k hk hup h2
      unfold addS at h3
      rw [if_pos hc] at h3
      have h4 := congrArg List.length h3
      simp only [List.length_append, List.length_take, List.length_cons, List.length_drop] at h4
      omega
  obtain ⟨v2, s2, r2, -⟩ := hv.hi (E := Try.prog) encPr_len und33 size39 (k := .i64) (i := (k : Int)) (by omega) (by omega)
  obtain ⟨v3, s3, r3, -⟩ := hv.lo (E := Try.prog) encPr_len und33 size39 (k := .i64) (i := (k : Int)) (by omega) (by omega)
  rw [Int.toNat_natCast] at r2 r3
  have hx1 : ∀ j, j < a.next + 1 → ∀ N b, a.next + 1 ≤ N → look j ((N, b) :: h) = look j h := fun j hj N b hN => look_miss (by omega)
  obtain ⟨n0, hn0⟩ : ∃ n0, n0 = n := ⟨_, rfl⟩
  by_cases hgo : 0 < k ∧ ∃ h : k - 1 < l.length, x.key < l[k - 1].key
  · obtain ⟨hk0, hk1, hlt⟩ := hgo
    obtain ⟨b, o, sp, rw0, cc, e1, hlk, hbn, hle, hat, hkk⟩ := hv.at encPr_len hk1
    subst e1
    have hkey : cc[o + (k - 1) * 2]? = some (.string (mkStr l[k - 1].key)) := by have := hkk 0 (by omega); simpa [encPr] using this
    have hlk' : look b h = some (.cells cc rw0) := by rw [hf b (by omega)]; exact hlk
    have hbl : (Op.bytesLess l[k - 1].key x.key || decide (l[k - 1].key = x.key)) = false := by
      rw [Bool.or_eq_false_iff, decide_eq_false_iff_not]
      exact ⟨bl_ge.2 (List.le_of_lt hlt), fun e => by rw [e] at hlt; exact List.lt_irrefl _ hlt⟩
    simp -dsimp (maxSteps := 4000000) (disch := first | omega | assumption | (simp only [FB, Nat.reduceAdd]; done) | (simp only [LB]; omega)) only [EB, ↓reduceIte, WB, Nat.reduceSub, Nat.reduceAdd, Int.reduceEq, Int.reduceNe, Int.reduceLT, Int.reduceLE, Int.reduceAdd, Int.reduceSub, Int.reduceMul, Int.reduceNeg, Int.reduceToNat, Nat.reduceEqDiff, Nat.reduceLT, Nat.reduceLeDiff, Nat.reduceMul, List.replicate, reduceCtorEq, TB, NB, MB, ]
    refine code_draw [(3, 4), (3, 5), (3, 9), (3, 10), (4, 9), (4, 10), (5, 9), (5, 10), (6, 9), (6, 10), (7, 9), (7, 10), (8, 9), (8, 10)] (by decide +kernel) (by decide +kernel) ?_
    simp -dsimp (maxSteps := 4000000) (disch := first | omega | assumption | (simp only [FB, Nat.reduceAdd]; done) | (simp only [LB]; omega)) only [EB, ↓reduceIte, WB, Nat.reduceSub, Nat.reduceAdd, Int.reduceEq, Int.reduceNe, Int.reduceLT, Int.reduceLE, Int.reduceAdd, Int.reduceSub, Int.reduceMul, Int.reduceNeg, Int.reduceToNat, Nat.reduceEqDiff, Nat.reduceLT, Nat.reduceLeDiff, Nat.reduceMul, List.replicate, reduceCtorEq, RB, Nat.reduceEqDiff, TB, NB, MB, t0, t3, t6, show (0 : Int) < k by omega, wrap64, show ((k : Int) - 1).toNat = k - 1 by omega, hlk', hkey, hb, hbl, show b < n + 1 by omega, show a.next < n + 1 by omega]
    refine ⟨k - 1, by omega, k - 1, n + 1, _, rfl, by omega, ⟨h, rfl, by omega, hf, hb⟩, rfl, fun j hj hkj => ?_, ?_⟩
    · rcases Nat.lt_or_ge j k with h | h
      · obtain rfl : j = k - 1 := by omega
        exact hlt
      · exact hup j hj h
    · simp only [ups_at, ↓reduceIte, Nat.reduceEqDiff]
      exact ⟨t0, t3, t4, t5, by congr 1; omega⟩
  · by_cases hk0 : 0 < k
    · have hk1 : k - 1 < l.length := by omega
      obtain ⟨b, o, sp, rw0, cc, e1, hlk, hbn, hle, hat, hkk⟩ := hv.at encPr_len hk1
      subst e1
      have hkey : cc[o + (k - 1) * 2]? = some (.string (mkStr l[k - 1].key)) := by have := hkk 0 (by omega); simpa [encPr] using this
      have hlk' : look b h = some (.cells cc rw0) := by rw [hf b (by omega)]; exact hlk
      have hnl : (Op.bytesLess l[k - 1].key x.key || decide (l[k - 1].key = x.key)) = true := by
        rw [Bool.or_eq_true, decide_eq_true_eq, bl_lt]
        exact lt_or_eq' (List.not_lt.1 fun h => hgo ⟨hk0, hk1, h⟩)
      by_cases heq : l[k - 1].key = x.key
      · simp -dsimp (maxSteps := 4000000) (disch := first | omega | assumption | (simp only [FB, Nat.reduceAdd]; done) | (simp only [LB]; omega)) only [EB, ↓reduceIte, WB, Nat.reduceSub, Nat.reduceAdd, Int.reduceEq, Int.reduceNe, Int.reduceLT, Int.reduceLE, Int.reduceAdd, Int.reduceSub, Int.reduceMul, Int.reduceNeg, Int.reduceToNat, Nat.reduceEqDiff, Nat.reduceLT, Nat.reduceLeDiff, Nat.reduceMul, List.replicate, reduceCtorEq, TB, NB, MB, ]
        refine code_draw [(3, 4), (3, 5), (3, 9), (3, 10), (4, 9), (4, 10), (5, 9), (5, 10), (6, 9), (6, 10), (7, 9), (7, 10), (8, 9), (8, 10)] (by decide +kernel) (by decide +kernel) ?_
        simp -dsimp (maxSteps := 4000000) (disch := first | omega | assumption | (simp only [FB, Nat.reduceAdd]; done) | (simp only [LB]; omega)) only [EB, ↓reduceIte, WB, Nat.reduceSub, Nat.reduceAdd, Int.reduceEq, Int.reduceNe, Int.reduceLT, Int.reduceLE, Int.reduceAdd, Int.reduceSub, Int.reduceMul, Int.reduceNeg, Int.reduceToNat, Nat.reduceEqDiff, Nat.reduceLT, Nat.reduceLeDiff, Nat.reduceMul, List.replicate, reduceCtorEq, RB, Nat.reduceEqDiff, TB, NB, MB, t0, t3, t6, show (0 : Int) < k by omega, wrap64, show ((k : Int) - 1).toNat = k - 1 by omega, hlk', hkey, hb, hnl, show b < n + 1 by omega, show a.next < n + 1 by omega]
        refine code_draw [(3, 4), (3, 5), (3, 9), (3, 10), (4, 9), (4, 10), (5, 9), (5, 10), (6, 9), (6, 10), (7, 9), (7, 10), (8, 9), (8, 10)] (by decide +kernel) (by decide +kernel) ?_
        simp -dsimp (maxSteps := 4000000) (disch := first | omega | assumption | (simp only [FB, Nat.reduceAdd]; done) | (simp only [LB]; omega)) only [EB, ↓reduceIte, WB, Nat.reduceSub, Nat.reduceAdd, Int.reduceEq, Int.reduceNe, Int.reduceLT, Int.reduceLE, Int.reduceAdd, Int.reduceSub, Int.reduceMul, Int.reduceNeg, Int.reduceToNat, Nat.reduceEqDiff, Nat.reduceLT, Nat.reduceLeDiff, Nat.reduceMul, List.replicate, reduceCtorEq, RB, Nat.reduceEqDiff, TB, NB, MB, t0, t3, t6, show (0 : Int) < k by omega, wrap64, show ((k : Int) - 1).toNat = k - 1 by omega, hlk', hkey, hb, decide_eq_true heq, show b < n + 2 by omega, show a.next < n + 2 by omega]
        have hkl : hasK l x.key = true := by rw [hasK_iff, List.mem_map]; exact ⟨_, List.getElem_mem hk1, heq⟩
        have hal := at_have x (k - 1) hk1 heq
        rw [hkl, hal] at hK
        exact back_rv2 (a := a) rfl (hv.keep (n' := n + 2) (by omega) fun j hj => hf j (by omega)) (by omega) hf hK
      · simp -dsimp (maxSteps := 4000000) (disch := first | omega | assumption | (simp only [FB, Nat.reduceAdd]; done) | (simp only [LB]; omega)) only [EB, ↓reduceIte, WB, Nat.reduceSub, Nat.reduceAdd, Int.reduceEq, Int.reduceNe, Int.reduceLT, Int.reduceLE, Int.reduceAdd, Int.reduceSub, Int.reduceMul, Int.reduceNeg, Int.reduceToNat, Nat.reduceEqDiff, Nat.reduceLT, Nat.reduceLeDiff, Nat.reduceMul, List.replicate, reduceCtorEq, TB, NB, MB, ]
        refine code_draw [(3, 4), (3, 5), (3, 9), (3, 10), (4, 9), (4, 10), (5, 9), (5, 10), (6, 9), (6, 10), (7, 9), (7, 10), (8, 9), (8, 10)] (by decide +kernel) (by decide +kernel) ?_
        simp -dsimp (maxSteps := 4000000) (disch := first | omega | assumption | (simp only [FB, Nat.reduceAdd]; done) | (simp only [LB]; omega)) only [EB, ↓reduceIte, WB, Nat.reduceSub, Nat.reduceAdd, Int.reduceEq, Int.reduceNe, Int.reduceLT, Int.reduceLE, Int.reduceAdd, Int.reduceSub, Int.reduceMul, Int.reduceNeg, Int.reduceToNat, Nat.reduceEqDiff, Nat.reduceLT, Nat.reduceLeDiff, Nat.reduceMul, List.replicate, reduceCtorEq, RB, Nat.reduceEqDiff, TB, NB, MB, t0, t3, t6, show (0 : Int) < k by omega, wrap64, show ((k : Int) - 1).toNat = k - 1 by omega, hlk', hkey, hb, hnl, show b < n + 1 by omega, show a.next < n + 1 by omega]
        refine code_draw [(3, 4), (3, 5), (3, 9), (3, 10), (4, 9), (4, 10), (5, 9), (5, 10), (6, 9), (6, 10), (7, 9), (7, 10), (8, 9), (8, 10)] (by decide +kernel) (by decide +kernel) ?_
        simp -dsimp (maxSteps := 4000000) (disch := first | omega | assumption | (simp only [FB, Nat.reduceAdd]; done) | (simp only [LB]; omega)) only [EB, ↓reduceIte, WB, Nat.reduceSub, Nat.reduceAdd, Int.reduceEq, Int.reduceNe, Int.reduceLT, Int.reduceLE, Int.reduceAdd, Int.reduceSub, Int.reduceMul, Int.reduceNeg, Int.reduceToNat, Nat.reduceEqDiff, Nat.reduceLT, Nat.reduceLeDiff, Nat.reduceMul, List.replicate, reduceCtorEq, RB, Nat.reduceEqDiff, TB, NB, MB, t0, t3, t6, show (0 : Int) < k by omega, wrap64, show ((k : Int) - 1).toNat = k - 1 by omega, hlk', hkey, hb, decide_eq_false heq, show b < n + 2 by omega, show a.next < n + 2 by omega]
        obtain ⟨hin, hkl⟩ := hins (.inr ⟨hk1, (lt_or_eq' (List.not_lt.1 fun h => hgo ⟨hk0, hk1, h⟩)).resolve_right heq⟩)
        rw [hkl] at hK
        refine code_draw [(0, 1), (0, 2), (0, 3), (0, 5), (0, 6), (0, 8), (0, 9), (0, 10), (1, 2), (1, 5), (1, 6), (1, 8), (1, 9), (1, 10), (2, 5), (2, 6), (2, 8), (2, 9), (2, 10), (3, 5), (3, 6), (3, 8), (3, 9), (3, 10), (4, 5), (4, 6), (4, 8), (4, 9), (4, 10), (5, 8), (5, 9), (5, 10), (6, 8), (6, 9), (6, 10), (7, 8), (7, 9), (7, 10), (8, 9)] (by decide +kernel) (by decide +kernel) ?_
        simp -dsimp (maxSteps := 4000000) (disch := first | omega | assumption | (simp only [FB, Nat.reduceAdd]; done) | (simp only [LB]; omega)) only [EB, ↓reduceIte, WB, Nat.reduceSub, Nat.reduceAdd, Int.reduceEq, Int.reduceNe, Int.reduceLT, Int.reduceLE, Int.reduceAdd, Int.reduceSub, Int.reduceMul, Int.reduceNeg, Int.reduceToNat, Nat.reduceEqDiff, Nat.reduceLT, Nat.reduceLeDiff, Nat.reduceMul, List.replicate, reduceCtorEq, RB, Nat.reduceEqDiff, TB, NB, MB, t0, t6, s2]
        have g2 : RV encPr 2 ((n + 3, Blk.cells [] true) :: h) m v2 (l.take k) := r2.keep (Nat.le_refl _) fun j hj => by rw [look_miss (by omega), hf j (by omega)]
        obtain ⟨w1, q1, n1, h1, d1, e1', o1, f1, f2, f3, f4, f5⟩ := append_own (E := Try.prog) (t0 := 33) (t1 := 33) (bs := n + 4) (d := []) app33 encPr_len encPr_one (OwnS.made (n := n + 4) (h := (n + 3, Blk.cells [] true) :: h) look_self (by omega)) g2 (by simp only [List.length_nil, List.length_take]; omega)
        rw [List.nil_append] at o1
        have hd1 : soilAll [] a.next d1 = [] := soil_back f5 (by omega)
        have hq1 : n + 3 ≤ q1 := by rcases f3 with h | h <;> omega
        have hb1 : look a.next h1 = some (.cells [.string (mkStr x.key), .string (mkStr x.val)] true) := by rw [f4 _ (by omega) (by omega), look_miss (by omega)]; exact hb
        obtain ⟨w2, q2, n2, h2, d2, e2', o2, g1, g2', g3, g4, g5⟩ := append_own (E := Try.prog) (t0 := 33) (t1 := 33) (bs := n1 + 1) (d := []) app33 encPr_len encPr_one (h := (n1, Blk.cells [.string (mkStr x.key), .string (mkStr x.val)] true) :: h1) (o1.keep (n' := n1 + 1) (by omega) fun hq => look_miss (by omega)) (RV.one (n := n1 + 1) (x := x) encPr_len look_self (by omega)) (by simp only [List.length_take, List.length_cons, List.length_nil]; omega)
        have hd2 : soilAll [] a.next d2 = [] := soil_back g5 (by omega)
        have hq2 : n + 3 ≤ q2 := by rcases g3 with h | h <;> omega
        have r3' : RV encPr 2 h2 m v3 (l.drop k) := r3.keep (Nat.le_refl _) fun j hj => by rw [g4 j (by omega) (by omega), look_miss (by omega), f4 j (by omega) (by omega), look_miss (by omega), hf j (by omega)]
        obtain ⟨w3, q3, n3, h3, d3, e3', o3, k1, k2, k3, k4, k5⟩ := append_own (E := Try.prog) (t0 := 33) (t1 := 33) (bs := n2) (d := []) app33 encPr_len encPr_one o2 r3' (by simp only [List.length_append, List.length_take, List.length_drop, List.length_cons, List.length_nil]; omega)
        have hd3 : soilAll [] a.next d3 = [] := soil_back k5 (by omega)
        have hq3 : n + 3 ≤ q3 := by rcases k3 with h | h <;> omega
        simp -dsimp (maxSteps := 4000000) (disch := first | omega | assumption | (simp only [FB, Nat.reduceAdd]; done) | (simp only [LB]; omega)) only [EB, ↓reduceIte, WB, Nat.reduceSub, Nat.reduceAdd, Int.reduceEq, Int.reduceNe, Int.reduceLT, Int.reduceLE, Int.reduceAdd, Int.reduceSub, Int.reduceMul, Int.reduceNeg, Int.reduceToNat, Nat.reduceEqDiff, Nat.reduceLT, Nat.reduceLeDiff, Nat.reduceMul, List.replicate, reduceCtorEq, RB, Nat.reduceEqDiff, TB, NB, MB, e1', hd1, t3, hb1, show a.next < n1 by omega, show ¬ n + 4 ≤ a.next by omega, soil_not f5 (show a.next ≠ n + 3 by omega), t0, t6, e2', hd2, s3, e3', hd3]
        refine back_rv2 (a := a) rfl (show RV encPr 2 h3 n3 w3 (addS l x) from ?_) (by omega) (fun j hj => ?_) hK
        · rw [← hin, List.append_cons]; exact o3.rv
        · rw [k4 j (by omega) (by omega), g4 j (by omega) (by omega), look_miss (by omega), f4 j (by omega) (by omega), look_miss (by omega), hf j hj]
    · obtain rfl : k = 0 := by omega
      obtain ⟨hin, hkl⟩ := hins (.inl rfl)
      rw [hkl] at hK
      simp -dsimp (maxSteps := 4000000) (disch := first | omega | assumption | (simp only [FB, Nat.reduceAdd]; done) | (simp only [LB]; omega)) only [EB, ↓reduceIte, WB, Nat.reduceSub, Nat.reduceAdd, Int.reduceEq, Int.reduceNe, Int.reduceLT, Int.reduceLE, Int.reduceAdd, Int.reduceSub, Int.reduceMul, Int.reduceNeg, Int.reduceToNat, Nat.reduceEqDiff, Nat.reduceLT, Nat.reduceLeDiff, Nat.reduceMul, List.replicate, reduceCtorEq, TB, NB, MB, ]
      refine code_draw [(3, 4), (3, 5), (3, 9), (3, 10), (4, 9), (4, 10), (5, 9), (5, 10), (6, 9), (6, 10), (7, 9), (7, 10), (8, 9), (8, 10)] (by decide +kernel) (by decide +kernel) ?_
      simp -dsimp (maxSteps := 4000000) (disch := first | omega | assumption | (simp only [FB, Nat.reduceAdd]; done) | (simp only [LB]; omega)) only [EB, ↓reduceIte, WB, Nat.reduceSub, Nat.reduceAdd, Int.reduceEq, Int.reduceNe, Int.reduceLT, Int.reduceLE, Int.reduceAdd, Int.reduceSub, Int.reduceMul, Int.reduceNeg, Int.reduceToNat, Nat.reduceEqDiff, Nat.reduceLT, Nat.reduceLeDiff, Nat.reduceMul, List.replicate, reduceCtorEq, RB, Nat.reduceEqDiff, TB, NB, MB, t0, t3, t6, show ¬ (0 : Int) < ((0 : Nat) : Int) by omega]
      refine code_draw [(3, 4), (3, 5), (3, 9), (3, 10), (4, 9), (4, 10), (5, 9), (5, 10), (6, 9), (6, 10), (7, 9), (7, 10), (8, 9), (8, 10)] (by decide +kernel) (by decide +kernel) ?_
      simp -dsimp (maxSteps := 4000000) (disch := first | omega | assumption | (simp only [FB, Nat.reduceAdd]; done) | (simp only [LB]; omega)) only [EB, ↓reduceIte, WB, Nat.reduceSub, Nat.reduceAdd, Int.reduceEq, Int.reduceNe, Int.reduceLT, Int.reduceLE, Int.reduceAdd, Int.reduceSub, Int.reduceMul, Int.reduceNeg, Int.reduceToNat, Nat.reduceEqDiff, Nat.reduceLT, Nat.reduceLeDiff, Nat.reduceMul, List.replicate, reduceCtorEq, RB, Nat.reduceEqDiff, TB, NB, MB, t0, t3, t6, show ¬ (0 : Int) < ((0 : Nat) : Int) by omega]
      refine code_draw [(0, 1), (0, 2), (0, 3), (0, 5), (0, 6), (0, 8), (0, 9), (0, 10), (1, 2), (1, 5), (1, 6), (1, 8), (1, 9), (1, 10), (2, 5), (2, 6), (2, 8), (2, 9), (2, 10), (3, 5), (3, 6), (3, 8), (3, 9), (3, 10), (4, 5), (4, 6), (4, 8), (4, 9), (4, 10), (5, 8), (5, 9), (5, 10), (6, 8), (6, 9), (6, 10), (7, 8), (7, 9), (7, 10), (8, 9)] (by decide +kernel) (by decide +kernel) ?_
      simp -dsimp (maxSteps := 4000000) (disch := first | omega | assumption | (simp only [FB, Nat.reduceAdd]; done) | (simp only [LB]; omega)) only [EB, ↓reduceIte, WB, Nat.reduceSub, Nat.reduceAdd, Int.reduceEq, Int.reduceNe, Int.reduceLT, Int.reduceLE, Int.reduceAdd, Int.reduceSub, Int.reduceMul, Int.reduceNeg, Int.reduceToNat, Nat.reduceEqDiff, Nat.reduceLT, Nat.reduceLeDiff, Nat.reduceMul, List.replicate, reduceCtorEq, RB, Nat.reduceEqDiff, TB, NB, MB, t0, t6, s2]
      have g2 : RV encPr 2 ((n + 3, Blk.cells [] true) :: h) m v2 (l.take 0) := r2.keep (Nat.le_refl _) fun j hj => by rw [look_miss (by omega), hf j (by omega)]
      obtain ⟨w1, q1, n1, h1, d1, e1', o1, f1, f2, f3, f4, f5⟩ := append_own (E := Try.prog) (t0 := 33) (t1 := 33) (bs := n + 4) (d := []) app33 encPr_len encPr_one (OwnS.made (n := n + 4) (h := (n + 3, Blk.cells [] true) :: h) look_self (by omega)) g2 (by simp only [List.length_nil, List.length_take]; omega)
      rw [List.nil_append] at o1
      have hd1 : soilAll [] a.next d1 = [] := soil_back f5 (by omega)
      have hq1 : n + 3 ≤ q1 := by rcases f3 with h | h <;> omega
      have hb1 : look a.next h1 = some (.cells [.string (mkStr x.key), .string (mkStr x.val)] true) := by rw [f4 _ (by omega) (by omega), look_miss (by omega)]; exact hb
      obtain ⟨w2, q2, n2, h2, d2, e2', o2, g1, g2', g3, g4, g5⟩ := append_own (E := Try.prog) (t0 := 33) (t1 := 33) (bs := n1 + 1) (d := []) app33 encPr_len encPr_one (h := (n1, Blk.cells [.string (mkStr x.key), .string (mkStr x.val)] true) :: h1) (o1.keep (n' := n1 + 1) (by omega) fun hq => look_miss (by omega)) (RV.one (n := n1 + 1) (x := x) encPr_len look_self (by omega)) (by simp only [List.length_take, List.length_cons, List.length_nil]; omega)
      have hd2 : soilAll [] a.next d2 = [] := soil_back g5 (by omega)
      have hq2 : n + 3 ≤ q2 := by rcases g3 with h | h <;> omega
      have r3' : RV encPr 2 h2 m v3 (l.drop 0) := r3.keep (Nat.le_refl _) fun j hj => by rw [g4 j (by omega) (by omega), look_miss (by omega), f4 j (by omega) (by omega), look_miss (by omega), hf j (by omega)]
      obtain ⟨w3, q3, n3, h3, d3, e3', o3, k1, k2, k3, k4, k5⟩ := append_own (E := Try.prog) (t0 := 33) (t1 := 33) (bs := n2) (d := []) app33 encPr_len encPr_one o2 r3' (by simp only [List.length_append, List.length_take, List.length_drop, List.length_cons, List.length_nil]; omega)
      have hd3 : soilAll [] a.next d3 = [] := soil_back k5 (by omega)
      have hq3 : n + 3 ≤ q3 := by rcases k3 with h | h <;> omega
      simp -dsimp (maxSteps := 4000000) (disch := first | omega | assumption | (simp only [FB, Nat.reduceAdd]; done) | (simp only [LB]; omega)) only [EB, ↓reduceIte, WB, Nat.reduceSub, Nat.reduceAdd, Int.reduceEq, Int.reduceNe, Int.reduceLT, Int.reduceLE, Int.reduceAdd, Int.reduceSub, Int.reduceMul, Int.reduceNeg, Int.reduceToNat, Nat.reduceEqDiff, Nat.reduceLT, Nat.reduceLeDiff, Nat.reduceMul, List.replicate, reduceCtorEq, RB, Nat.reduceEqDiff, TB, NB, MB, e1', hd1, t3, hb1, show a.next < n1 by omega, show ¬ n + 4 ≤ a.next by omega, soil_not f5 (show a.next ≠ n + 3 by omega), t0, t6, e2', hd2, s3, e3', hd3]
      refine back_rv2 (a := a) rfl (show RV encPr 2 h3 n3 w3 (addS l x) from ?_) (by omega) (fun j hj => ?_) hK
      · rw [← hin, List.append_cons]; exact o3.rv
      · rw [k4 j (by omega) (by omega), g4 j (by omega) (by omega), look_miss (by omega), f4 j (by omega) (by omega), look_miss (by omega), hf j hj]
end Go.Proofs.YtdgpniekpmoadaaAM
