/- Chapter 6: the calls. -/
import Derived.Test.YtpcaoohacgkeiaaR4
namespace Go.Proofs.YtpcaoohacgkeiaaAM
open Go Go.RowKit
set_option linter.unusedVariables false
set_option linter.unusedSimpArgs false
set_option maxRecDepth 1000000
set_option maxHeartbeats 8000000

theorem app_cons {α : Type} {x : α} {l k : List α} : List.append (x :: l) k = x :: List.append l k := rfl
theorem app_nil {α : Type} {k : List α} : List.append [] k = k := rfl
theorem bool_eql {x y : Operand} {b : Bool} : binA Try.prog .eql 4 x y (.bool b) (.bool b) = some (.bool true) := by cases b <;> rfl
theorem setB_len (l : List Bkt) (b : Bkt) : (setB l b).length ≤ l.length + 1 := by
  unfold setB
  split
  · simp
  · simp only [insB, List.length_append, List.length_take, List.length_cons, List.length_drop]; omega
theorem delB_len (l : List Bkt) (s : List UInt8) : (delB l s).length ≤ l.length := List.length_eraseIdx_le l _
theorem law5 (size n tx : Int) (v : Value) (l : List Bkt) (p : Pg) (x : Bkt) (hll : l.length ≤ 5000000000000) (hnm : ∀ b ∈ l, b.name.length ≤ 140737488355328) (hc1 : -9223372036854775808 ≤ p.count) (hc2 : p.count ≤ 9223372036854775807) (a : AW) (m : Nat) (hm : m ≤ a.next) (hv : RV encB 3 a.heap m v l) :
    WCall Try.prog GV 5 [.int .i64 size, .int .u32 n, .int .u64 tx, v, .agg (encP p).toArray, .agg (encB x).toArray] a fun r _ => r = .bool true := by
  rw [call_env Try.func5 rfl Try.ntmps5 rfl rfl (by simp)]
  obtain ⟨pp, c, rfl⟩ := hv.len
  obtain ⟨H2, hH2⟩ : ∃ H2, H2 = (a.next + 1, Blk.cells (encB x) true) :: (a.next, Blk.cells (encP p) true) :: a.heap := ⟨_, rfl⟩
  have hv0 : RV encB 3 H2 m (.slice pp l.length c) l := hv.keep (Nat.le_refl _) fun j hj => by rw [hH2, look_miss (by omega), look_miss (by omega)]
  have hlt := fun K => light9 (.slice pp l.length c) l (by omega) ⟨a.next + 2, H2, a.next, []⟩ m (by simp only; omega) hv0 K
  have hp0 : look a.next H2 = some (.cells (encP p) true) := by rw [hH2, look_miss (by omega)]; exact look_self
  have hx0 : look (a.next + 1) H2 = some (.cells (encB x) true) := by rw [hH2]; exact look_self
  have hp0' := hp0
  have hx0' := hx0
  simp only [encB, encP] at hH2 hp0' hx0' ⊢
  by_cases c1 : l.length ≤ 60 ∧ lightN l ≤ 1000
  · by_cases c2 : (4200 : Int) < p.body.length
    · simp -dsimp (maxSteps := 4000000) (disch := first | omega | assumption | (simp only [FB, Nat.reduceAdd]; done) | (simp only [LB]; omega)) only [EB, ↓reduceIte, WB, Nat.reduceSub, Nat.reduceAdd, Int.reduceEq, Int.reduceNe, Int.reduceLT, Int.reduceLE, Int.reduceAdd, Int.reduceSub, Int.reduceMul, Int.reduceNeg, Int.reduceToNat, Nat.reduceEqDiff, Nat.reduceLT, Nat.reduceLeDiff, Nat.reduceMul, List.replicate, reduceCtorEq, TB, NB, lives8, ← hH2, hlt, decide_eq_true c1, c2, hp0', hx0', leave_fst flat_bool]
    · by_cases c3 : (100 : Int) < x.name.length
      · simp -dsimp (maxSteps := 4000000) (disch := first | omega | assumption | (simp only [FB, Nat.reduceAdd]; done) | (simp only [LB]; omega)) only [EB, ↓reduceIte, WB, Nat.reduceSub, Nat.reduceAdd, Int.reduceEq, Int.reduceNe, Int.reduceLT, Int.reduceLE, Int.reduceAdd, Int.reduceSub, Int.reduceMul, Int.reduceNeg, Int.reduceToNat, Nat.reduceEqDiff, Nat.reduceLT, Nat.reduceLeDiff, Nat.reduceMul, List.replicate, reduceCtorEq, TB, NB, lives8, ← hH2, hlt, decide_eq_true c1, c2, c3, hp0', hx0', leave_fst flat_bool]
      · have hsl : sizeB l ≤ 4611686018427387904 := by
          have h9 := sizeB_le l hnm
          omega
        have hpc := fun K => page10 size n tx (.slice pp l.length c) l hll hnm ⟨a.next + 2, H2, a.next, []⟩ m (by simp only; omega) hv0 K
        obtain ⟨X, hX⟩ : ∃ X, X = pageB size n tx l := ⟨_, rfl⟩
        have hv1 : RV encB 3 ((a.next + 2, Blk.cells (encP X.1) true) :: H2) m (.slice pp l.length c) l := hv0.keep (Nat.le_refl _) fun j hj => look_miss (by omega)
        have hpc2 := fun K => page20 size n tx (.slice pp l.length c) l (by omega) hsl hnm ⟨a.next + 3, (a.next + 2, Blk.cells (encP X.1) true) :: H2, a.next, []⟩ m (by simp only; omega) hv1 K
        rw [← hX] at hpc hpc2
        obtain ⟨H4, hH4⟩ : ∃ H4, H4 = (a.next + 3, Blk.cells (encP X.1) true) :: (a.next + 2, Blk.cells (encP X.1) true) :: H2 := ⟨_, rfl⟩
        have hp4 : look a.next H4 = some (.cells (encP p) true) := by rw [hH4, look_miss (by omega), look_miss (by omega)]; exact hp0
        have hx4 : look (a.next + 1) H4 = some (.cells (encB x) true) := by rw [hH4, look_miss (by omega), look_miss (by omega)]; exact hx0
        have hq4 : look (a.next + 2) H4 = some (.cells (encP X.1) true) := by rw [hH4, look_miss (by omega)]; exact look_self
        have hr4 : look (a.next + 3) H4 = some (.cells (encP X.1) true) := by rw [hH4]; exact look_self
        have hv4 : RV encB 3 H4 m (.slice pp l.length c) l := hv0.keep (Nat.le_refl _) fun j hj => by rw [hH4, look_miss (by omega), look_miss (by omega)]
        have hpg : ∀ q r, binA Try.prog .eql 26 q r (.agg (encP X.1).toArray) (.agg (encP X.1).toArray) = some (.bool true) := fun q r => by
          have := eql26 (x := q) (y := r) (p := X.1) (p' := X.1)
          rw [decide_eq_true rfl] at this; exact this
        have hp4' := hp4
        have hx4' := hx4
        simp only [encP, encB] at hpc hpc2 hH4 hp4' hx4'
        simp -dsimp (maxSteps := 4000000) (disch := first | omega | assumption | (simp only [FB, Nat.reduceAdd]; done) | (simp only [LB]; omega)) only [EB, ↓reduceIte, WB, Nat.reduceSub, Nat.reduceAdd, Int.reduceEq, Int.reduceNe, Int.reduceLT, Int.reduceLE, Int.reduceAdd, Int.reduceSub, Int.reduceMul, Int.reduceNeg, Int.reduceToNat, Nat.reduceEqDiff, Nat.reduceLT, Nat.reduceLeDiff, Nat.reduceMul, List.replicate, reduceCtorEq, TB, NB, lives8, ← hH2, hlt, decide_eq_true c1, c2, c3, hp0', hx0', hpc, hpc2, ← hH4, hp4']
        refine of11 p (by omega) hc1 hc2 ⟨a.next + 4, H4, a.next, []⟩ _ (fun L hL v1 n1 h1 x1 x2 x3 x4 => ?_) (fun hnone => ?_)
        · simp only at x1 x2 x3 x4
          have hp5 : look a.next h1 = some (.cells (encP p) true) := by rw [x4 _ (by omega)]; exact hp4
          simp only [encP] at hp5
          simp -dsimp (maxSteps := 4000000) (disch := first | omega | assumption | (simp only [FB, Nat.reduceAdd]; done) | (simp only [LB]; omega)) only [EB, ↓reduceIte, WB, Nat.reduceSub, Nat.reduceAdd, Int.reduceEq, Int.reduceNe, Int.reduceLT, Int.reduceLE, Int.reduceAdd, Int.reduceSub, Int.reduceMul, Int.reduceNeg, Int.reduceToNat, Nat.reduceEqDiff, Nat.reduceLT, Nat.reduceLeDiff, Nat.reduceMul, List.replicate, reduceCtorEq, TB, NB, hp5]
          refine of21 p (by omega) hc1 hc2 ⟨n1, h1, a.next, []⟩ _ (fun L' hL' v2 n2 h2 y1 y2 y3 y4 => ?_) (fun hnone => ?_)
          · rw [hL] at hL'; cases hL'
            simp only at y1 y2 y3 y4
            have hlen : L.length ≤ 1000000 := by
              have hmo := of_more hL
              have hmp := (pageB_ok (by rw [hmo])).1
              have hfit := may_fit hmp
              have hge := sizeB_ge L
              omega
            have hA : RV encB 3 h2 n2 v1 L := x3.rv.keep (by omega) fun j hj => y4 j (by omega)
            have hB : RV encB 3 h2 n2 v2 L := y3.rv
            have hlow : ∀ j, j < a.next + 4 → look j h2 = look j H4 := fun j hj => by rw [y4 j (by omega), x4 j (by omega)]
            have hn2 : a.next + 4 ≤ n2 := by omega
            have hvN : RV encB 3 h2 n2 (.slice pp l.length c) l := hv4.keep (by omega) fun j hj => hlow j (by omega)
            have hxN : look (a.next + 1) h2 = some (.cells (encB x) true) := by rw [hlow _ (by omega)]; exact hx4
            have hqN : look (a.next + 2) h2 = some (.cells (encP X.1) true) := by rw [hlow _ (by omega)]; exact hq4
            have hrN : look (a.next + 3) h2 = some (.cells (encP X.1) true) := by rw [hlow _ (by omega)]; exact hr4
            simp only [encB] at hxN
            simp only [encP] at hqN hrN hpg
            have hf1 := fun K => find16 (.slice pp l.length c) l (by omega) x.name ⟨n2, h2, a.next, []⟩ n2 (Nat.le_refl _) hvN K
            have hf2 := fun K => find22 (.slice pp l.length c) l (by omega) x.name ⟨n2, h2, a.next, []⟩ n2 (Nat.le_refl _) hvN K
            simp -dsimp (maxSteps := 4000000) (disch := first | omega | assumption | (simp only [FB, Nat.reduceAdd]; done) | (simp only [LB]; omega)) only [EB, ↓reduceIte, WB, Nat.reduceSub, Nat.reduceAdd, Int.reduceEq, Int.reduceNe, Int.reduceLT, Int.reduceLE, Int.reduceAdd, Int.reduceSub, Int.reduceMul, Int.reduceNeg, Int.reduceToNat, Nat.reduceEqDiff, Nat.reduceLT, Nat.reduceLeDiff, Nat.reduceMul, List.replicate, reduceCtorEq, TB, NB, hxN, hf1, hf2]
            refine code_draw [(0, 1), (4, 5), (9, 10), (14, 15), (19, 20), (24, 25), (29, 31), (30, 31), (36, 39), (36, 40), (37, 39), (37, 40), (38, 39), (38, 40), (45, 47), (45, 49), (45, 50), (46, 47), (46, 49), (46, 50), (47, 49), (47, 50), (48, 49), (48, 50), (49, 50), (55, 57), (55, 58), (55, 60), (55, 61), (55, 62), (56, 57), (56, 58), (56, 60), (56, 61), (56, 62), (57, 60), (57, 61), (57, 62), (58, 60), (58, 61), (58, 62), (59, 60), (59, 61), (59, 62), (60, 61), (60, 62)] (by decide +kernel) (by decide +kernel) ?_; (repeat rw [app_cons]); rw [app_nil]
            have hs1 := fun K => same12 v1 v2 L L hlen ⟨n2 + 1, h2, n2 + 1, []⟩ n2 (by simp only; omega) hA hB K
            have hz1 := fun K => sizeOf23 (.slice pp l.length c) l (by omega) hsl ⟨n2 + 1, h2, n2 + 1, []⟩ n2 (by simp only; omega) hvN K
            have hz2 := fun K => size24r (.slice pp l.length c) l (by omega) hnm hsl ⟨n2 + 1, h2, n2 + 1, []⟩ n2 (by simp only; omega) hvN K
            simp -dsimp (maxSteps := 4000000) (disch := first | omega | assumption | (simp only [FB, Nat.reduceAdd]; done) | (simp only [LB]; omega)) only [EB, ↓reduceIte, WB, Nat.reduceSub, Nat.reduceAdd, Int.reduceEq, Int.reduceNe, Int.reduceLT, Int.reduceLE, Int.reduceAdd, Int.reduceSub, Int.reduceMul, Int.reduceNeg, Int.reduceToNat, Nat.reduceEqDiff, Nat.reduceLT, Nat.reduceLeDiff, Nat.reduceMul, List.replicate, reduceCtorEq, RB, Nat.reduceEqDiff, TB, NB, hqN, hrN, hxN, hpg, hs1, hz1, hz2, name19, name25, decide_true, bool_eql]
            refine own15 _ l (by omega) ⟨n2 + 1, h2, n2 + 1, []⟩ n2 (by simp only; omega) hvN _ fun w1 m1 k1 z1 z2 z3 z4 => ?_
            simp only at z1 z2 z3 z4
            have hxa : look (a.next + 1) k1 = some (.cells [.string (mkStr x.name), .int .u32 x.root, .int .i64 x.keys] true) := by rw [z4 _ (by omega)]; exact hxN
            simp -dsimp (maxSteps := 4000000) (disch := first | omega | assumption | (simp only [FB, Nat.reduceAdd]; done) | (simp only [LB]; omega)) only [EB, ↓reduceIte, WB, Nat.reduceSub, Nat.reduceAdd, Int.reduceEq, Int.reduceNe, Int.reduceLT, Int.reduceLE, Int.reduceAdd, Int.reduceSub, Int.reduceMul, Int.reduceNeg, Int.reduceToNat, Nat.reduceEqDiff, Nat.reduceLT, Nat.reduceLeDiff, Nat.reduceMul, List.replicate, reduceCtorEq, RB, Nat.reduceEqDiff, TB, NB, hxa]
            refine set17 w1 l (by omega) x ⟨m1, k1, m1, []⟩ m1 (Nat.le_refl _) z3.rv _ fun w2 m2 k2 u1 u2 u3 u4 => ?_
            simp only at u1 u2 u3 u4
            have hxb : look (a.next + 1) k2 = some (.cells [.string (mkStr x.name), .int .u32 x.root, .int .i64 x.keys] true) := by rw [u4 _ (by omega)]; exact hxa
            simp -dsimp (maxSteps := 4000000) (disch := first | omega | assumption | (simp only [FB, Nat.reduceAdd]; done) | (simp only [LB]; omega)) only [EB, ↓reduceIte, WB, Nat.reduceSub, Nat.reduceAdd, Int.reduceEq, Int.reduceNe, Int.reduceLT, Int.reduceLE, Int.reduceAdd, Int.reduceSub, Int.reduceMul, Int.reduceNeg, Int.reduceToNat, Nat.reduceEqDiff, Nat.reduceLT, Nat.reduceLeDiff, Nat.reduceMul, List.replicate, reduceCtorEq, RB, Nat.reduceEqDiff, TB, NB, hxb]
            refine set26 _ l (by omega) x ⟨m2, k2, m2, []⟩ m2 (Nat.le_refl _) (hvN.keep (by omega) fun j hj => by rw [u4 j (by omega), z4 j (by omega)]) _ fun w3 m3 k3 r1 r2 r3 r4 => ?_
            simp only at r1 r2 r3 r4
            have hsb := setB_len l x
            have hs2 := fun K => same12 w2 w3 (setB l x) (setB l x) (by omega) ⟨m3, k3, m3, []⟩ m3 (Nat.le_refl _) (u3.rv.keep (by omega) fun j hj => r4 j (by omega)) r3.rv K
            have hvM : RV encB 3 k3 m3 (.slice pp l.length c) l := hvN.keep (by omega) fun j hj => by rw [r4 j (by omega), u4 j (by omega), z4 j (by omega)]
            have hxc : look (a.next + 1) k3 = some (.cells [.string (mkStr x.name), .int .u32 x.root, .int .i64 x.keys] true) := by rw [r4 _ (by omega)]; exact hxb
            simp -dsimp (maxSteps := 4000000) (disch := first | omega | assumption | (simp only [FB, Nat.reduceAdd]; done) | (simp only [LB]; omega)) only [EB, ↓reduceIte, WB, Nat.reduceSub, Nat.reduceAdd, Int.reduceEq, Int.reduceNe, Int.reduceLT, Int.reduceLE, Int.reduceAdd, Int.reduceSub, Int.reduceMul, Int.reduceNeg, Int.reduceToNat, Nat.reduceEqDiff, Nat.reduceLT, Nat.reduceLeDiff, Nat.reduceMul, List.replicate, reduceCtorEq, RB, Nat.reduceEqDiff, TB, NB, hs2, decide_true]
            refine own15 _ l (by omega) ⟨m3, k3, m3, []⟩ m3 (Nat.le_refl _) hvM _ fun w4 m4 k4 s1 s2 s3 s4 => ?_
            simp only at s1 s2 s3 s4
            have hxd : look (a.next + 1) k4 = some (.cells [.string (mkStr x.name), .int .u32 x.root, .int .i64 x.keys] true) := by rw [s4 _ (by omega)]; exact hxc
            simp -dsimp (maxSteps := 4000000) (disch := first | omega | assumption | (simp only [FB, Nat.reduceAdd]; done) | (simp only [LB]; omega)) only [EB, ↓reduceIte, WB, Nat.reduceSub, Nat.reduceAdd, Int.reduceEq, Int.reduceNe, Int.reduceLT, Int.reduceLE, Int.reduceAdd, Int.reduceSub, Int.reduceMul, Int.reduceNeg, Int.reduceToNat, Nat.reduceEqDiff, Nat.reduceLT, Nat.reduceLeDiff, Nat.reduceMul, List.replicate, reduceCtorEq, RB, Nat.reduceEqDiff, TB, NB, hxd]
            refine del18 w4 l (by omega) x.name ⟨m4, k4, m4, []⟩ m4 (Nat.le_refl _) s3.rv _ fun w5 m5 k5 g1 g2 g3 g4 => ?_
            simp only at g1 g2 g3 g4
            have hxe : look (a.next + 1) k5 = some (.cells [.string (mkStr x.name), .int .u32 x.root, .int .i64 x.keys] true) := by rw [g4 _ (by omega)]; exact hxd
            simp -dsimp (maxSteps := 4000000) (disch := first | omega | assumption | (simp only [FB, Nat.reduceAdd]; done) | (simp only [LB]; omega)) only [EB, ↓reduceIte, WB, Nat.reduceSub, Nat.reduceAdd, Int.reduceEq, Int.reduceNe, Int.reduceLT, Int.reduceLE, Int.reduceAdd, Int.reduceSub, Int.reduceMul, Int.reduceNeg, Int.reduceToNat, Nat.reduceEqDiff, Nat.reduceLT, Nat.reduceLeDiff, Nat.reduceMul, List.replicate, reduceCtorEq, RB, Nat.reduceEqDiff, TB, NB, hxe]
            refine del27 _ l (by omega) x.name ⟨m5, k5, m5, []⟩ m5 (Nat.le_refl _) (hvM.keep (by omega) fun j hj => by rw [g4 j (by omega), s4 j (by omega)]) _ fun w6 m6 k6 i1 i2 i3 i4 => ?_
            simp only at i1 i2 i3 i4
            have hdb := delB_len l x.name
            have hs3 := fun K => same12 w5 w6 (delB l x.name) (delB l x.name) (by omega) ⟨m6, k6, m6, []⟩ m6 (Nat.le_refl _) (g3.rv.keep (by omega) fun j hj => i4 j (by omega)) i3.rv K
            simp -dsimp (maxSteps := 4000000) (disch := first | omega | assumption | (simp only [FB, Nat.reduceAdd]; done) | (simp only [LB]; omega)) only [EB, ↓reduceIte, WB, Nat.reduceSub, Nat.reduceAdd, Int.reduceEq, Int.reduceNe, Int.reduceLT, Int.reduceLE, Int.reduceAdd, Int.reduceSub, Int.reduceMul, Int.reduceNeg, Int.reduceToNat, Nat.reduceEqDiff, Nat.reduceLT, Nat.reduceLeDiff, Nat.reduceMul, List.replicate, reduceCtorEq, RB, Nat.reduceEqDiff, TB, NB, hs3, decide_true]
          · rw [hL] at hnone; cases hnone
        · have hp5' := hp4'
          simp -dsimp (maxSteps := 4000000) (disch := first | omega | assumption | (simp only [FB, Nat.reduceAdd]; done) | (simp only [LB]; omega)) only [EB, ↓reduceIte, WB, Nat.reduceSub, Nat.reduceAdd, Int.reduceEq, Int.reduceNe, Int.reduceLT, Int.reduceLE, Int.reduceAdd, Int.reduceSub, Int.reduceMul, Int.reduceNeg, Int.reduceToNat, Nat.reduceEqDiff, Nat.reduceLT, Nat.reduceLeDiff, Nat.reduceMul, List.replicate, reduceCtorEq, TB, NB, hp5']
          refine of21 p (by omega) hc1 hc2 ⟨a.next + 4, H4, a.next, []⟩ _ (fun L' hL' v2 n2 h2 y1 y2 y3 y4 => ?_) (fun _ => ?_)
          · rw [hnone] at hL'; cases hL'
          · have hlow : ∀ j, j < a.next + 4 → look j H4 = look j H4 := fun _ _ => rfl
            have hn2 : a.next + 4 ≤ a.next + 4 := Nat.le_refl _
            have hvN : RV encB 3 H4 (a.next + 4) (.slice pp l.length c) l := hv4.keep (by omega) fun j hj => hlow j (by omega)
            have hxN : look (a.next + 1) H4 = some (.cells (encB x) true) := by rw [hlow _ (by omega)]; exact hx4
            have hqN : look (a.next + 2) H4 = some (.cells (encP X.1) true) := by rw [hlow _ (by omega)]; exact hq4
            have hrN : look (a.next + 3) H4 = some (.cells (encP X.1) true) := by rw [hlow _ (by omega)]; exact hr4
            simp only [encB] at hxN
            simp only [encP] at hqN hrN hpg
            have hf1 := fun K => find16 (.slice pp l.length c) l (by omega) x.name ⟨(a.next + 4), H4, a.next, []⟩ (a.next + 4) (Nat.le_refl _) hvN K
            have hf2 := fun K => find22 (.slice pp l.length c) l (by omega) x.name ⟨(a.next + 4), H4, a.next, []⟩ (a.next + 4) (Nat.le_refl _) hvN K
            simp -dsimp (maxSteps := 4000000) (disch := first | omega | assumption | (simp only [FB, Nat.reduceAdd]; done) | (simp only [LB]; omega)) only [EB, ↓reduceIte, WB, Nat.reduceSub, Nat.reduceAdd, Int.reduceEq, Int.reduceNe, Int.reduceLT, Int.reduceLE, Int.reduceAdd, Int.reduceSub, Int.reduceMul, Int.reduceNeg, Int.reduceToNat, Nat.reduceEqDiff, Nat.reduceLT, Nat.reduceLeDiff, Nat.reduceMul, List.replicate, reduceCtorEq, TB, NB, hxN, hf1, hf2]
            refine code_draw [(0, 1), (4, 5), (9, 10), (14, 15), (19, 20), (24, 25), (29, 31), (30, 31), (36, 39), (36, 40), (37, 39), (37, 40), (38, 39), (38, 40), (45, 47), (45, 49), (45, 50), (46, 47), (46, 49), (46, 50), (47, 49), (47, 50), (48, 49), (48, 50), (49, 50), (55, 57), (55, 58), (55, 60), (55, 61), (55, 62), (56, 57), (56, 58), (56, 60), (56, 61), (56, 62), (57, 60), (57, 61), (57, 62), (58, 60), (58, 61), (58, 62), (59, 60), (59, 61), (59, 62), (60, 61), (60, 62)] (by decide +kernel) (by decide +kernel) ?_; (repeat rw [app_cons]); rw [app_nil]
            have hs1 := fun K => same12 (.slice none 0 0) (.slice none 0 0) [] [] (by simp) ⟨(a.next + 4) + 1, H4, (a.next + 4) + 1, []⟩ (a.next + 4) (by simp only; omega) (.inl ⟨rfl, rfl⟩) (.inl ⟨rfl, rfl⟩) K
            have hz1 := fun K => sizeOf23 (.slice pp l.length c) l (by omega) hsl ⟨(a.next + 4) + 1, H4, (a.next + 4) + 1, []⟩ (a.next + 4) (by simp only; omega) hvN K
            have hz2 := fun K => size24r (.slice pp l.length c) l (by omega) hnm hsl ⟨(a.next + 4) + 1, H4, (a.next + 4) + 1, []⟩ (a.next + 4) (by simp only; omega) hvN K
            simp -dsimp (maxSteps := 4000000) (disch := first | omega | assumption | (simp only [FB, Nat.reduceAdd]; done) | (simp only [LB]; omega)) only [EB, ↓reduceIte, WB, Nat.reduceSub, Nat.reduceAdd, Int.reduceEq, Int.reduceNe, Int.reduceLT, Int.reduceLE, Int.reduceAdd, Int.reduceSub, Int.reduceMul, Int.reduceNeg, Int.reduceToNat, Nat.reduceEqDiff, Nat.reduceLT, Nat.reduceLeDiff, Nat.reduceMul, List.replicate, reduceCtorEq, RB, Nat.reduceEqDiff, TB, NB, hqN, hrN, hxN, hpg, hs1, hz1, hz2, name19, name25, decide_true, bool_eql]
            refine own15 _ l (by omega) ⟨(a.next + 4) + 1, H4, (a.next + 4) + 1, []⟩ (a.next + 4) (by simp only; omega) hvN _ fun w1 m1 k1 z1 z2 z3 z4 => ?_
            simp only at z1 z2 z3 z4
            have hxa : look (a.next + 1) k1 = some (.cells [.string (mkStr x.name), .int .u32 x.root, .int .i64 x.keys] true) := by rw [z4 _ (by omega)]; exact hxN
            simp -dsimp (maxSteps := 4000000) (disch := first | omega | assumption | (simp only [FB, Nat.reduceAdd]; done) | (simp only [LB]; omega)) only [EB, ↓reduceIte, WB, Nat.reduceSub, Nat.reduceAdd, Int.reduceEq, Int.reduceNe, Int.reduceLT, Int.reduceLE, Int.reduceAdd, Int.reduceSub, Int.reduceMul, Int.reduceNeg, Int.reduceToNat, Nat.reduceEqDiff, Nat.reduceLT, Nat.reduceLeDiff, Nat.reduceMul, List.replicate, reduceCtorEq, RB, Nat.reduceEqDiff, TB, NB, hxa]
            refine set17 w1 l (by omega) x ⟨m1, k1, m1, []⟩ m1 (Nat.le_refl _) z3.rv _ fun w2 m2 k2 u1 u2 u3 u4 => ?_
            simp only at u1 u2 u3 u4
            have hxb : look (a.next + 1) k2 = some (.cells [.string (mkStr x.name), .int .u32 x.root, .int .i64 x.keys] true) := by rw [u4 _ (by omega)]; exact hxa
            simp -dsimp (maxSteps := 4000000) (disch := first | omega | assumption | (simp only [FB, Nat.reduceAdd]; done) | (simp only [LB]; omega)) only [EB, ↓reduceIte, WB, Nat.reduceSub, Nat.reduceAdd, Int.reduceEq, Int.reduceNe, Int.reduceLT, Int.reduceLE, Int.reduceAdd, Int.reduceSub, Int.reduceMul, Int.reduceNeg, Int.reduceToNat, Nat.reduceEqDiff, Nat.reduceLT, Nat.reduceLeDiff, Nat.reduceMul, List.replicate, reduceCtorEq, RB, Nat.reduceEqDiff, TB, NB, hxb]
            refine set26 _ l (by omega) x ⟨m2, k2, m2, []⟩ m2 (Nat.le_refl _) (hvN.keep (by omega) fun j hj => by rw [u4 j (by omega), z4 j (by omega)]) _ fun w3 m3 k3 r1 r2 r3 r4 => ?_
            simp only at r1 r2 r3 r4
            have hsb := setB_len l x
            have hs2 := fun K => same12 w2 w3 (setB l x) (setB l x) (by omega) ⟨m3, k3, m3, []⟩ m3 (Nat.le_refl _) (u3.rv.keep (by omega) fun j hj => r4 j (by omega)) r3.rv K
            have hvM : RV encB 3 k3 m3 (.slice pp l.length c) l := hvN.keep (by omega) fun j hj => by rw [r4 j (by omega), u4 j (by omega), z4 j (by omega)]
            have hxc : look (a.next + 1) k3 = some (.cells [.string (mkStr x.name), .int .u32 x.root, .int .i64 x.keys] true) := by rw [r4 _ (by omega)]; exact hxb
            simp -dsimp (maxSteps := 4000000) (disch := first | omega | assumption | (simp only [FB, Nat.reduceAdd]; done) | (simp only [LB]; omega)) only [EB, ↓reduceIte, WB, Nat.reduceSub, Nat.reduceAdd, Int.reduceEq, Int.reduceNe, Int.reduceLT, Int.reduceLE, Int.reduceAdd, Int.reduceSub, Int.reduceMul, Int.reduceNeg, Int.reduceToNat, Nat.reduceEqDiff, Nat.reduceLT, Nat.reduceLeDiff, Nat.reduceMul, List.replicate, reduceCtorEq, RB, Nat.reduceEqDiff, TB, NB, hs2, decide_true]
            refine own15 _ l (by omega) ⟨m3, k3, m3, []⟩ m3 (Nat.le_refl _) hvM _ fun w4 m4 k4 s1 s2 s3 s4 => ?_
            simp only at s1 s2 s3 s4
            have hxd : look (a.next + 1) k4 = some (.cells [.string (mkStr x.name), .int .u32 x.root, .int .i64 x.keys] true) := by rw [s4 _ (by omega)]; exact hxc
            simp -dsimp (maxSteps := 4000000) (disch := first | omega | assumption | (simp only [FB, Nat.reduceAdd]; done) | (simp only [LB]; omega)) only [EB, ↓reduceIte, WB, Nat.reduceSub, Nat.reduceAdd, Int.reduceEq, Int.reduceNe, Int.reduceLT, Int.reduceLE, Int.reduceAdd, Int.reduceSub, Int.reduceMul, Int.reduceNeg, Int.reduceToNat, Nat.reduceEqDiff, Nat.reduceLT, Nat.reduceLeDiff, Nat.reduceMul, List.replicate, reduceCtorEq, RB, Nat.reduceEqDiff, TB, NB, hxd]
            refine del18 w4 l (by omega) x.name ⟨m4, k4, m4, []⟩ m4 (Nat.le_refl _) s3.rv _ fun w5 m5 k5 g1 g2 g3 g4 => ?_
            simp only at g1 g2 g3 g4
            have hxe : look (a.next + 1) k5 = some (.cells [.string (mkStr x.name), .int .u32 x.root, .int .i64 x.keys] true) := by rw [g4 _ (by omega)]; exact hxd
            simp -dsimp (maxSteps := 4000000) (disch := first | omega | assumption | (simp only [FB, Nat.reduceAdd]; done) | (simp only [LB]; omega)) only [EB, ↓reduceIte, WB, Nat.reduceSub, Nat.reduceAdd, Int.reduceEq, Int.reduceNe, Int.reduceLT, Int.reduceLE, Int.reduceAdd, Int.reduceSub, Int.reduceMul, Int.reduceNeg, Int.reduceToNat, Nat.reduceEqDiff, Nat.reduceLT, Nat.reduceLeDiff, Nat.reduceMul, List.replicate, reduceCtorEq, RB, Nat.reduceEqDiff, TB, NB, hxe]
            refine del27 _ l (by omega) x.name ⟨m5, k5, m5, []⟩ m5 (Nat.le_refl _) (hvM.keep (by omega) fun j hj => by rw [g4 j (by omega), s4 j (by omega)]) _ fun w6 m6 k6 i1 i2 i3 i4 => ?_
            simp only at i1 i2 i3 i4
            have hdb := delB_len l x.name
            have hs3 := fun K => same12 w5 w6 (delB l x.name) (delB l x.name) (by omega) ⟨m6, k6, m6, []⟩ m6 (Nat.le_refl _) (g3.rv.keep (by omega) fun j hj => i4 j (by omega)) i3.rv K
            simp -dsimp (maxSteps := 4000000) (disch := first | omega | assumption | (simp only [FB, Nat.reduceAdd]; done) | (simp only [LB]; omega)) only [EB, ↓reduceIte, WB, Nat.reduceSub, Nat.reduceAdd, Int.reduceEq, Int.reduceNe, Int.reduceLT, Int.reduceLE, Int.reduceAdd, Int.reduceSub, Int.reduceMul, Int.reduceNeg, Int.reduceToNat, Nat.reduceEqDiff, Nat.reduceLT, Nat.reduceLeDiff, Nat.reduceMul, List.replicate, reduceCtorEq, RB, Nat.reduceEqDiff, TB, NB, hs3, decide_true]
  · simp -dsimp (maxSteps := 4000000) (disch := first | omega | assumption | (simp only [FB, Nat.reduceAdd]; done) | (simp only [LB]; omega)) only [EB, ↓reduceIte, WB, Nat.reduceSub, Nat.reduceAdd, Int.reduceEq, Int.reduceNe, Int.reduceLT, Int.reduceLE, Int.reduceAdd, Int.reduceSub, Int.reduceMul, Int.reduceNeg, Int.reduceToNat, Nat.reduceEqDiff, Nat.reduceLT, Nat.reduceLeDiff, Nat.reduceMul, List.replicate, reduceCtorEq, TB, NB, lives8, ← hH2, hlt, decide_eq_false c1, hp0', hx0', leave_fst flat_bool]
theorem law5r (size n tx : Int) (v : Value) (l : List Bkt) (k c p q t : Int) (s y : ByteArray) (r z : Int) (hll : l.length ≤ 5000000000000) (hc : -9223372036854775808 ≤ c ∧ c ≤ 9223372036854775807) (a : AW) (m : Nat) (hm : m ≤ a.next) (hv : SliceR BktR 3 l a.heap m [v]) :
    WCall Try.prog GV 5 [.int .i64 size, .int .u32 n, .int .u64 tx, v, .agg #[.int .i64 k, .int .i64 c, .int .u32 p, .int .u32 q, .int .u64 t, .string (mkStr (strOf s))], .agg #[.string (mkStr (strOf y)), .int .u32 r, .int .i64 z]] a fun r _ => r = .bool true := by
  obtain ⟨h1, h2⟩ := SliceR.rv encB_len hv
  exact law5 size n tx v l ⟨k, c, p, q, t, strOf s⟩ ⟨strOf y, r, z⟩ hll (fun b hb => (h2 b hb).1) hc.1 hc.2 a m hm h1
end Go.Proofs.YtpcaoohacgkeiaaAM
