/- Chapter 26: MergeOrder. -/
import Derived.Test.YtdgpniekpmoadaaN4
namespace Go.Proofs.YtdgpniekpmoadaaAM
open Go Go.RowKit
set_option linter.unusedVariables false
set_option linter.unusedSimpArgs false
set_option maxRecDepth 10000
set_option maxHeartbeats 4000000

def lenMap (v : Value) (a : AW) : Option Value := match v with
  | .map r => (mapOf (.map r) a).map fun es => .int .i64 es.size
  | _ => none
theorem lenMap_map {r a} : lenMap (.map r) a = (mapOf (.map r) a).map fun es => .int .i64 es.size := hide rfl
theorem op_len41 {G : Gives} {t : List Value} {a : AW} {K : Value → AW → Prop} {x} : WOp Try.prog G (.call ⟨.builtin .len, #[x], #[41]⟩) t a K = WVal (evalA t x) fun v => WVal (lenMap v a) fun r => K r a := by
  rw [op_read rfl]
  simp only [readA, oper, evals_cons, evals_nil]
  cases evalA t x with
  | none => rfl
  | some v =>
    cases v with
    | map r =>
      simp only [lenMap, WVal, Option.bind_some, Option.map_some]
      cases mapOf (.map r) a <;> rfl
    | _ => rfl
theorem order4 (v u : Value) (ps : List Pr) (l : List Or') (k : Int) (hk : -9223372036854775808 ≤ k ∧ k ≤ 9223372036854775807) (hps : ps.length ≤ 140737488355328) (hl : l.length ≤ 140737488355328) (hx : ∀ x ∈ ps, x.key.length ≤ 140737488355328 ∧ x.val.length ≤ 140737488355328) (hpg : ∀ o ∈ l, 0 ≤ o.page ∧ o.page ≤ 4294967295) (a : AW) (m : Nat) (hm : m ≤ a.next) (hv : RV encPr 2 a.heap m v ps) (hu : RV encO 4 a.heap m u l) (K : Value → AW → Prop) :
    WCall Try.prog GV 4 [v, u, .int .i64 k] a K = K (.bool true) a := by
  refine call_eq ?_ K
  rw [call_env Try.func4 rfl Try.ntmps4 rfl rfl (by simp)]
  have hli := fun K => light12 v u ps l hps hl hx ⟨a.next, a.heap, a.next, []⟩ m hm hv hu K
  by_cases hB : lightB ps l
  · rw [decide_eq_true hB] at hli
    obtain ⟨⟨b1, b2⟩, b3, b4⟩ := hB
    obtain ⟨po, co, hue⟩ := hu.len
    subst hue
    have hpg2 : ∀ o ∈ l, (0 ≤ o.page ∧ o.page ≤ 4294967295) ∧ o.key.length ≤ 100000000 := fun o ho => ⟨hpg o ho, by have := (b4 o ho).1; omega⟩
    have htk : ∀ p ∈ ps, p.key.length ≤ 100000000 := fun p hp => by have := lightP_mem ps hp; omega
    have hkb : ∀ o ∈ l, (orP o).key.length ≤ 100000000 := fun o ho => by
      have := (hpg2 o ho).2
      show (kbytes o).length ≤ _
      unfold kbytes
      simp only [List.length_append, List.length_cons, List.length_nil, List.length_take]
      omega
    obtain ⟨A, hA⟩ : ∃ A, A = outM (keptA ps l) := ⟨_, rfl⟩
    have hAl : A.length = (keptA ps l).length := by rw [hA, outM_len]
    have hk1 : (keptT ps).length ≤ (keptA ps l).length ∧ (keptA ps l).length ≤ (keptT ps).length + l.length := keptO_len (keptT ps) l
    have hk2 := keptT_len ps
    simp -dsimp (maxSteps := 4000000) (disch := first | omega | assumption | (simp only [FB, Nat.reduceAdd]; done) | (simp only [LB]; omega)) only [EB, ↓reduceIte, WB, Nat.reduceSub, Nat.reduceAdd, Int.reduceEq, Int.reduceNe, Int.reduceLT, Int.reduceLE, Int.reduceAdd, Int.reduceSub, Int.reduceMul, Int.reduceNeg, Int.reduceToNat, Nat.reduceEqDiff, Nat.reduceLT, Nat.reduceLeDiff, Nat.reduceMul, List.replicate, reduceCtorEq, TB, NB, MB, lives8, hli]
    refine own14 v ps (by omega) ⟨a.next, a.heap, a.next, []⟩ m hm hv _ fun v1 n1 h1 x1 x2 x3 x4 => ?_
    simp only at x1 x2 x3 x4
    have hu1 : RV encO 4 h1 m (.slice po l.length co) l := hu.keep (Nat.le_refl _) fun j hj => x4 j (by omega)
    simp -dsimp (maxSteps := 4000000) (disch := first | omega | assumption | (simp only [FB, Nat.reduceAdd]; done) | (simp only [LB]; omega)) only [EB, ↓reduceIte, WB, Nat.reduceSub, Nat.reduceAdd, Int.reduceEq, Int.reduceNe, Int.reduceLT, Int.reduceLE, Int.reduceAdd, Int.reduceSub, Int.reduceMul, Int.reduceNeg, Int.reduceToNat, Nat.reduceEqDiff, Nat.reduceLT, Nat.reduceLeDiff, Nat.reduceMul, List.replicate, reduceCtorEq, TB, NB, MB, ]
    refine merge13 v1 _ ps l (by omega) (by omega) htk hpg2 ⟨n1, h1, a.next, []⟩ n1 (Nat.le_refl _) x3.rv (hu1.keep (by omega) fun _ _ => rfl) _ fun v2 n2 h2 y1 y2 y3 y4 => ?_
    simp only at y1 y2 y3 y4
    rw [← hA] at y3
    have hu2 : RV encO 4 h2 m (.slice po l.length co) l := hu1.keep (Nat.le_refl _) fun j hj => y4 j (by omega)
    have hv2 : RV encPr 2 h2 m v ps := hv.keep (Nat.le_refl _) fun j hj => by rw [y4 j (by omega), x4 j (by omega)]
    simp -dsimp (maxSteps := 4000000) (disch := first | omega | assumption | (simp only [FB, Nat.reduceAdd]; done) | (simp only [LB]; omega)) only [EB, ↓reduceIte, WB, Nat.reduceSub, Nat.reduceAdd, Int.reduceEq, Int.reduceNe, Int.reduceLT, Int.reduceLE, Int.reduceAdd, Int.reduceSub, Int.reduceMul, Int.reduceNeg, Int.reduceToNat, Nat.reduceEqDiff, Nat.reduceLT, Nat.reduceLeDiff, Nat.reduceMul, List.replicate, reduceCtorEq, TB, NB, MB, ]
    refine own14 v ps (by omega) ⟨n2, h2, a.next, []⟩ m (by simp only; omega) hv2 _ fun v3 n3 h3 z1 z2 z3 z4 => ?_
    simp only at z1 z2 z3 z4
    have hA2 : RV encPr 2 h2 n2 v2 A := y3.rv
    simp -dsimp (maxSteps := 4000000) (disch := first | omega | assumption | (simp only [FB, Nat.reduceAdd]; done) | (simp only [LB]; omega)) only [EB, ↓reduceIte, WB, Nat.reduceSub, Nat.reduceAdd, Int.reduceEq, Int.reduceNe, Int.reduceLT, Int.reduceLE, Int.reduceAdd, Int.reduceSub, Int.reduceMul, Int.reduceNeg, Int.reduceToNat, Nat.reduceEqDiff, Nat.reduceLT, Nat.reduceLeDiff, Nat.reduceMul, List.replicate, reduceCtorEq, TB, NB, MB, wrap64]
    refine loop_inv (fun r t w => ∃ i n h vi, ∃ e : Nat → Value, r = l.length - i ∧ i ≤ l.length ∧ w = ⟨n, h, a.next, []⟩ ∧ n2 ≤ n ∧ (∀ j, j < n2 → look j h = look j h2) ∧ RV encPr 2 h n vi (stepM ps l i) ∧ t = TT 115 e ∧ e 0 = v ∧ e 1 = .slice po l.length co ∧ e 2 = .int .i64 k ∧ e 7 = v2 ∧ e 8 = .int .i64 (((keptA ps l).length : Int) - (keptT ps).length) ∧ e 9 = vi ∧ e 10 = .int .i64 (((keptO (keptT ps) (l.take i)).length : Int) - (keptT ps).length) ∧ e 11 = .int .i64 i)
      ⟨0, n3, h3, v3, _, rfl, by omega, rfl, by omega, fun j hj => z4 j hj, z3.rv, rfl, rfl, rfl, rfl, rfl, rfl, rfl, by simp [ups_at, keptO], by simp [ups_at]⟩ ?_
    rintro r t w ⟨i, n, h, vi, e, rfl, hi, rfl, hn, hf, hr, rfl, t0, t1, t2, t7, t8, t9, t10, t11⟩
    have hsl := stepM_len ps l i hi
    have hol := keptO_len (keptT ps) (l.take i)
    rw [List.length_take] at hol
    have hui : RV encO 4 h m (.slice po l.length co) l := hu2.keep (Nat.le_refl _) fun j hj => hf j (by omega)
    by_cases hlt : i < l.length
    · obtain ⟨v4, s4, r4, -⟩ := hui.both (E := Try.prog) encO_len und27 size24 (k := .i64) (k' := .i64) (i := (i : Int)) (j := (i : Int) + 1) (by omega) (by omega) (by omega)
      have hone : (l.take ((i : Int) + 1).toNat).drop ((i : Int)).toNat = [l[i]] := by
        rw [Int.toNat_natCast, show ((i : Int) + 1).toNat = i + 1 by omega, List.take_add_one, List.getElem?_eq_getElem hlt, List.drop_append, List.length_take, Nat.min_eq_left (by omega), Nat.sub_self, List.drop_zero, List.drop_of_length_le (by rw [List.length_take]; omega)]
        rfl
      rw [hone] at r4
      simp -dsimp (maxSteps := 4000000) (disch := first | omega | assumption | (simp only [FB, Nat.reduceAdd]; done) | (simp only [LB]; omega)) only [EB, ↓reduceIte, WB, Nat.reduceSub, Nat.reduceAdd, Int.reduceEq, Int.reduceNe, Int.reduceLT, Int.reduceLE, Int.reduceAdd, Int.reduceSub, Int.reduceMul, Int.reduceNeg, Int.reduceToNat, Nat.reduceEqDiff, Nat.reduceLT, Nat.reduceLeDiff, Nat.reduceMul, List.replicate, reduceCtorEq, TB, NB, MB, t0, t1, t2, t7, t8, t9, t10, t11, show (i : Int) < l.length by omega, wrap64, s4]
      have hsm : (stepM ps l i).length ≤ 1000 := by
        cases i with
        | zero => show ps.length ≤ _; omega
        | succ i =>
          have := (stepM_out ps l (i + 1) hi).2 (by omega)
          rw [this, outM_len]; omega
      have hmem := List.getElem_mem hlt
      refine merge13 vi v4 (stepM ps l i) [l[i]] hsm (by simp) (fun p hp => ?_) (fun o ho => by rw [List.mem_singleton] at ho; subst ho; exact hpg2 _ hmem) ⟨n, h, a.next, []⟩ n (Nat.le_refl _) hr (r4.keep (by omega) fun _ _ => rfl) _ fun v5 n5 h5 q1 q2 q3 q4 => ?_
      · rcases stepM_mem ps l i hi hp with hp | ⟨o, ho, rfl⟩
        · exact htk _ hp
        · exact hkb _ ho
      · simp only at q1 q2 q3 q4
        have hka : keptA (stepM ps l i) [l[i]] = addP (keptT (stepM ps l i)) (orP l[i]) := rfl
        have hstep : stepM ps l (i + 1) = outM (keptA (stepM ps l i) [l[i]]) := by
          show outM (addP (keptT (stepM ps l i)) (orP (l.getD i default))) = _
          rw [hka]
          have : l.getD i default = l[i] := by rw [List.getD_eq_getElem?_getD, List.getElem?_eq_getElem hlt]; rfl
          rw [this]
        rw [← hstep] at q3
        have hcl : (keptA (stepM ps l i) [l[i]]).length = (keptO (keptT ps) (l.take (i + 1))).length := by
          have h1 := congrArg List.length hstep
          rw [(stepM_out ps l (i + 1) (by omega)).2 (by omega), outM_len, outM_len] at h1
          exact h1.symm
        have hol2 := keptO_len (keptT ps) (l.take (i + 1))
        rw [List.length_take] at hol2
        simp -dsimp (maxSteps := 4000000) (disch := first | omega | assumption | (simp only [FB, Nat.reduceAdd]; done) | (simp only [LB]; omega)) only [EB, ↓reduceIte, WB, Nat.reduceSub, Nat.reduceAdd, Int.reduceEq, Int.reduceNe, Int.reduceLT, Int.reduceLE, Int.reduceAdd, Int.reduceSub, Int.reduceMul, Int.reduceNeg, Int.reduceToNat, Nat.reduceEqDiff, Nat.reduceLT, Nat.reduceLeDiff, Nat.reduceMul, List.replicate, reduceCtorEq, TB, NB, MB, t10, t11, wrap64]
        refine ⟨trivial, l.length - (i + 1), by omega, i + 1, n5, h5, v5, _, rfl, by omega, rfl, by omega, fun j hj => by rw [q4 j (by omega), hf j hj], q3.rv.keep (Nat.le_refl _) fun _ _ => rfl, rfl, ?_⟩
        simp only [ups_at, ↓reduceIte, Nat.reduceEqDiff]
        refine ⟨t0, t1, t2, t7, t8, trivial, ?_, (by first | trivial | rfl | omega)⟩
        congr 1; omega
    · obtain rfl : i = l.length := by omega
      rw [List.take_length] at t10
      have hA3 : RV encPr 2 h n2 v2 A := hA2.keep (Nat.le_refl _) fun j hj => hf j hj
      have hk41 : zeroV Try.prog 41 = some (.map none) := by kernel_rfl
      have hui' : RV encO 4 h n (.slice po l.length co) l := hui.keep (by omega) fun _ _ => rfl
      have f1 := fun K => same15 v2 vi A A (by omega) ⟨n, h, a.next, []⟩ n (Nat.le_refl _) (hA3.keep (by omega) fun _ _ => rfl)
      have hwd : soilW a.next [] n = [] := by unfold soilW; rw [if_neg (by omega)]
      have hvn : RV encPr 2 h m v ps := hv2.keep (Nat.le_refl _) fun j hj => hf j (by omega)
      simp -dsimp (maxSteps := 4000000) (disch := first | omega | assumption | (simp only [FB, Nat.reduceAdd]; done) | (simp only [LB]; omega)) only [EB, ↓reduceIte, WB, Nat.reduceSub, Nat.reduceAdd, Int.reduceEq, Int.reduceNe, Int.reduceLT, Int.reduceLE, Int.reduceAdd, Int.reduceSub, Int.reduceMul, Int.reduceNeg, Int.reduceToNat, Nat.reduceEqDiff, Nat.reduceLT, Nat.reduceLeDiff, Nat.reduceMul, List.replicate, reduceCtorEq, TB, NB, MB, t0, t1, t2, t7, t8, t9, t10, t11, show ¬ (l.length : Int) < l.length by omega]
      rcases Nat.eq_zero_or_pos l.length with h0 | h0
      · simp -dsimp (maxSteps := 4000000) (disch := first | omega | assumption | (simp only [FB, Nat.reduceAdd]; done) | (simp only [LB]; omega)) only [EB, ↓reduceIte, WB, Nat.reduceSub, Nat.reduceAdd, Int.reduceEq, Int.reduceNe, Int.reduceLT, Int.reduceLE, Int.reduceAdd, Int.reduceSub, Int.reduceMul, Int.reduceNeg, Int.reduceToNat, Nat.reduceEqDiff, Nat.reduceLT, Nat.reduceLeDiff, Nat.reduceMul, List.replicate, reduceCtorEq, TB, NB, MB, t0, t1, t2, t7, t8, t9, t10, t11, show ¬ (0 : Int) < (l.length : Int) by omega]
        refine loop_inv (fun r t w => ∃ i h', ∃ M : List (List UInt8 × Nat), ∃ e : Nat → Value, r = l.length - i ∧ i ≤ l.length ∧ w = ⟨n + 1, h', a.next, []⟩ ∧ (∀ j, j < n → look j h' = look j h) ∧ MapIs ekS evN (look n h') M ∧ Counts M ((l.take i).map kbytes) ∧ t = TT 115 e ∧ e 0 = v ∧ e 1 = .slice po l.length co ∧ e 2 = .int .i64 k ∧ e 7 = v2 ∧ e 8 = .int .i64 (((keptA ps l).length : Int) - (keptT ps).length) ∧ e 14 = .map (some n) ∧ e 15 = .int .i64 i)
          ⟨0, _, [], _, rfl, by omega, rfl, fun j hj => look_miss (by omega), by rw [look_self]; exact map_new, ⟨fun k hk => by simp at hk, by simp, by simp, fun p hp => by cases hp⟩, rfl, by simp only [ups_at, ↓reduceIte, Nat.reduceEqDiff]; exact t0, by simp only [ups_at, ↓reduceIte, Nat.reduceEqDiff]; exact t1, by simp only [ups_at, ↓reduceIte, Nat.reduceEqDiff]; exact t2, by simp only [ups_at, ↓reduceIte, Nat.reduceEqDiff]; exact t7, by simp only [ups_at, ↓reduceIte, Nat.reduceEqDiff]; exact t8, by simp [ups_at], by simp [ups_at]⟩ ?_
        clear t0 t1 t2 t7 t8 t9 t10 t11
        rintro r t w ⟨i, h', M, e, rfl, hi, rfl, hf2, hM, hC, rfl, t0, t1, t2, t7, t8, t14, t15⟩
        by_cases hlt : i < l.length
        · exact absurd hlt (by omega)
        · obtain rfl : i = l.length := by omega
          rw [List.take_length] at hC
          have hml := map_len (a := ⟨n + 1, h', a.next, []⟩) hM
          have hCl := hC.len
          rw [List.length_map] at hCl
          by_cases hdup : M.length < l.length
          · simp -dsimp (maxSteps := 4000000) (disch := first | omega | assumption | (simp only [FB, Nat.reduceAdd]; done) | (simp only [LB]; omega)) only [EB, ↓reduceIte, WB, Nat.reduceSub, Nat.reduceAdd, Int.reduceEq, Int.reduceNe, Int.reduceLT, Int.reduceLE, Int.reduceAdd, Int.reduceSub, Int.reduceMul, Int.reduceNeg, Int.reduceToNat, Nat.reduceEqDiff, Nat.reduceLT, Nat.reduceLeDiff, Nat.reduceMul, List.replicate, reduceCtorEq, TB, NB, MB, t0, t1, t2, t7, t8, t14, t15, show ¬ (l.length : Int) < l.length by omega, op_len41, lenMap_map, hml, show (M.length : Int) < l.length by omega]
            exact ⟨(by first | trivial | rfl | omega), (by first | trivial | rfl | omega)⟩
          · have hnk := hC.apart (by rw [List.length_map]; omega)
            obtain ⟨R, hR⟩ : ∃ R, R = pickN k ((l.length : Int) + 1) := ⟨_, rfl⟩
            have hRb := pickN_bd k ((l.length : Int) + 1) (by omega)
            have hpk := fun a K => pick16 k ((l.length : Int) + 1) hk (by omega) a K
            rw [← hR] at hRb hpk
            have hp2 : (l.drop R.toNat ++ l.take R.toNat).Perm l := List.perm_append_comm.trans (by rw [List.take_append_drop])
            have hord := kept_order ps hp2.symm hnk
            rw [← hA] at hord
            have hu9 : RV encO 4 h' m (.slice po l.length co) l := hui.keep (Nat.le_refl _) fun j hj => hf2 j (by omega)
            have hv9 : RV encPr 2 h' m v ps := hvn.keep (Nat.le_refl _) fun j hj => hf2 j (by omega)
            have hA9 : RV encPr 2 h' n2 v2 A := hA3.keep (Nat.le_refl _) fun j hj => hf2 j (by omega)
            obtain ⟨v7, s7, r7, -⟩ := hu9.lo (E := Try.prog) encO_len und27 size24 (k := .i64) (i := R) (by omega) (by omega)
            obtain ⟨v8, s8, r8, -⟩ := hu9.hi (E := Try.prog) encO_len und27 size24 (k := .i64) (i := R) (by omega) (by omega)
            simp -dsimp (maxSteps := 4000000) (disch := first | omega | assumption | (simp only [FB, Nat.reduceAdd]; done) | (simp only [LB]; omega)) only [EB, ↓reduceIte, WB, Nat.reduceSub, Nat.reduceAdd, Int.reduceEq, Int.reduceNe, Int.reduceLT, Int.reduceLE, Int.reduceAdd, Int.reduceSub, Int.reduceMul, Int.reduceNeg, Int.reduceToNat, Nat.reduceEqDiff, Nat.reduceLT, Nat.reduceLeDiff, Nat.reduceMul, List.replicate, reduceCtorEq, TB, NB, MB, t0, t1, t2, t7, t8, t14, t15, show ¬ (l.length : Int) < l.length by omega, op_len41, lenMap_map, hml, show ¬ (M.length : Int) < l.length by omega, hpk, wrap64]
            refine code_draw [(0, 2), (0, 3), (0, 4), (0, 6), (0, 7), (0, 8), (1, 2), (1, 3), (1, 4), (1, 6), (1, 7), (1, 8), (2, 3), (2, 6), (2, 7), (2, 8), (3, 6), (3, 7), (3, 8), (4, 6), (4, 7), (4, 8), (5, 6), (5, 7), (5, 8), (6, 7), (12, 13), (13, 14)] (by decide +kernel) (by decide +kernel) ?_
            simp -dsimp (maxSteps := 4000000) (disch := first | omega | assumption | (simp only [FB, Nat.reduceAdd]; done) | (simp only [LB]; omega)) only [EB, ↓reduceIte, WB, Nat.reduceSub, Nat.reduceAdd, Int.reduceEq, Int.reduceNe, Int.reduceLT, Int.reduceLE, Int.reduceAdd, Int.reduceSub, Int.reduceMul, Int.reduceNeg, Int.reduceToNat, Nat.reduceEqDiff, Nat.reduceLT, Nat.reduceLeDiff, Nat.reduceMul, List.replicate, reduceCtorEq, RB, Nat.reduceEqDiff, TB, NB, MB, t0, t1, t2, t7, t8, t14, t15]
            refine own14 v ps (by omega) ⟨n + 1 + 1, h', n + 1 + 1, []⟩ m (by simp only; omega) hv9 _ fun w1 m1 g1 y1 y2 y3 y4 => ?_
            simp only at y1 y2 y3 y4
            simp -dsimp (maxSteps := 4000000) (disch := first | omega | assumption | (simp only [FB, Nat.reduceAdd]; done) | (simp only [LB]; omega)) only [EB, ↓reduceIte, WB, Nat.reduceSub, Nat.reduceAdd, Int.reduceEq, Int.reduceNe, Int.reduceLT, Int.reduceLE, Int.reduceAdd, Int.reduceSub, Int.reduceMul, Int.reduceNeg, Int.reduceToNat, Nat.reduceEqDiff, Nat.reduceLT, Nat.reduceLeDiff, Nat.reduceMul, List.replicate, reduceCtorEq, RB, Nat.reduceEqDiff, TB, NB, MB, t0, t1, t2, t7, t8, t14, t15, s7]
            refine own17 v7 (l.drop R.toNat) (by rw [List.length_drop]; omega) ⟨m1, g1, m1, []⟩ m (by simp only; omega) (r7.keep (Nat.le_refl _) fun j hj => y4 j (by omega)) _ fun w2 m2 g2 z1 z2 z3 z4 => ?_
            simp only at z1 z2 z3 z4
            have r8' : RV encO 4 g2 m v8 (l.take R.toNat) := r8.keep (Nat.le_refl _) fun j hj => by rw [z4 j (by omega), y4 j (by omega)]
            obtain ⟨w3, q3, m3, g3, d3, e3, o3, f1, f2, f3, f4, f5⟩ := append_own (E := Try.prog) (t0 := 27) (t1 := 27) (bs := m2) (d := []) app27 encO_len encO_one z3 r8' (by rw [List.length_drop, List.length_take]; omega)
            have hd3 : soilAll [] a.next d3 = [] := soil_back f5 (by omega)
            simp -dsimp (maxSteps := 4000000) (disch := first | omega | assumption | (simp only [FB, Nat.reduceAdd]; done) | (simp only [LB]; omega)) only [EB, ↓reduceIte, WB, Nat.reduceSub, Nat.reduceAdd, Int.reduceEq, Int.reduceNe, Int.reduceLT, Int.reduceLE, Int.reduceAdd, Int.reduceSub, Int.reduceMul, Int.reduceNeg, Int.reduceToNat, Nat.reduceEqDiff, Nat.reduceLT, Nat.reduceLeDiff, Nat.reduceMul, List.replicate, reduceCtorEq, RB, Nat.reduceEqDiff, TB, NB, MB, t0, t1, t2, t7, t8, t14, t15, s8, e3, hd3]
            have hw1 : RV encPr 2 g3 m1 w1 ps := y3.rv.keep (Nat.le_refl _) fun j hj => by rw [f4 j (by omega) (by omega), z4 j hj]
            refine merge13 w1 w3 ps (l.drop R.toNat ++ l.take R.toNat) (by omega) (by rw [hp2.length_eq]; omega) htk (fun o ho => hpg2 o (hp2.mem_iff.1 ho)) ⟨m3, g3, m3, []⟩ m3 (Nat.le_refl _) (hw1.keep (by omega) fun _ _ => rfl) o3.rv _ fun w4 m4 g4 p1 p2 p3 p4 => ?_
            simp only at p1 p2 p3 p4
            rw [hord] at p3
            have hlen9 := congrArg List.length hord
            rw [outM_len] at hlen9
            have hA10 : RV encPr 2 g4 n2 v2 A := hA9.keep (Nat.le_refl _) fun j hj => by rw [p4 j (by omega), f4 j (by omega) (by omega), z4 j (by omega), y4 j (by omega)]
            have fin := fun K => same15 v2 w4 A A (by omega) ⟨m4, g4, a.next, []⟩ m4 (Nat.le_refl _) (hA10.keep (by omega) fun _ _ => rfl) p3.rv K
            rw [decide_eq_true rfl] at fin
            rw [hlen9, hAl]
            simp -dsimp (maxSteps := 4000000) (disch := first | omega | assumption | (simp only [FB, Nat.reduceAdd]; done) | (simp only [LB]; omega)) only [EB, ↓reduceIte, WB, Nat.reduceSub, Nat.reduceAdd, Int.reduceEq, Int.reduceNe, Int.reduceLT, Int.reduceLE, Int.reduceAdd, Int.reduceSub, Int.reduceMul, Int.reduceNeg, Int.reduceToNat, Nat.reduceEqDiff, Nat.reduceLT, Nat.reduceLeDiff, Nat.reduceMul, List.replicate, reduceCtorEq, RB, Nat.reduceEqDiff, TB, NB, MB, ]
            simp -dsimp (maxSteps := 4000000) (disch := first | omega | assumption | (simp only [FB, Nat.reduceAdd]; done) | (simp only [LB]; omega)) only [EB, ↓reduceIte, WB, Nat.reduceSub, Nat.reduceAdd, Int.reduceEq, Int.reduceNe, Int.reduceLT, Int.reduceLE, Int.reduceAdd, Int.reduceSub, Int.reduceMul, Int.reduceNeg, Int.reduceToNat, Nat.reduceEqDiff, Nat.reduceLT, Nat.reduceLeDiff, Nat.reduceMul, List.replicate, reduceCtorEq, TB, NB, MB, t0, t1, t2, t7, t8, t14, t15, fin]
            exact ⟨(by first | trivial | rfl | omega), (by first | trivial | rfl | omega)⟩
      · have hst := (stepM_out ps l l.length (Nat.le_refl _)).2 h0
        rw [List.take_length] at hst
        have hrA : RV encPr 2 h n vi A := by rw [hA]; rw [hst] at hr; exact hr
        have f2 := fun K => f1 K hrA
        rw [decide_eq_true rfl] at f2
        simp -dsimp (maxSteps := 4000000) (disch := first | omega | assumption | (simp only [FB, Nat.reduceAdd]; done) | (simp only [LB]; omega)) only [EB, ↓reduceIte, WB, Nat.reduceSub, Nat.reduceAdd, Int.reduceEq, Int.reduceNe, Int.reduceLT, Int.reduceLE, Int.reduceAdd, Int.reduceSub, Int.reduceMul, Int.reduceNeg, Int.reduceToNat, Nat.reduceEqDiff, Nat.reduceLT, Nat.reduceLeDiff, Nat.reduceMul, List.replicate, reduceCtorEq, TB, NB, MB, t0, t1, t2, t7, t8, t9, t10, t11, show (0 : Int) < (l.length : Int) by omega, f2, show keptO (keptT ps) l = keptA ps l from rfl]
        refine loop_inv (fun r t w => ∃ i h', ∃ M : List (List UInt8 × Nat), ∃ e : Nat → Value, r = l.length - i ∧ i ≤ l.length ∧ w = ⟨n + 1, h', a.next, []⟩ ∧ (∀ j, j < n → look j h' = look j h) ∧ MapIs ekS evN (look n h') M ∧ Counts M ((l.take i).map kbytes) ∧ t = TT 115 e ∧ e 0 = v ∧ e 1 = .slice po l.length co ∧ e 2 = .int .i64 k ∧ e 7 = v2 ∧ e 8 = .int .i64 (((keptA ps l).length : Int) - (keptT ps).length) ∧ e 14 = .map (some n) ∧ e 15 = .int .i64 i)
          ⟨0, _, [], _, rfl, by omega, rfl, fun j hj => look_miss (by omega), by rw [look_self]; exact map_new, ⟨fun k hk => by simp at hk, by simp, by simp, fun p hp => by cases hp⟩, rfl, by simp only [ups_at, ↓reduceIte, Nat.reduceEqDiff]; exact t0, by simp only [ups_at, ↓reduceIte, Nat.reduceEqDiff]; exact t1, by simp only [ups_at, ↓reduceIte, Nat.reduceEqDiff]; exact t2, by simp only [ups_at, ↓reduceIte, Nat.reduceEqDiff]; exact t7, by simp only [ups_at, ↓reduceIte, Nat.reduceEqDiff]; exact t8, by simp [ups_at], by simp [ups_at]⟩ ?_
        clear t0 t1 t2 t7 t8 t9 t10 t11
        rintro r t w ⟨i, h', M, e, rfl, hi, rfl, hf2, hM, hC, rfl, t0, t1, t2, t7, t8, t14, t15⟩
        by_cases hlt : i < l.length
        · obtain ⟨b, o, sp, rw0, cc, he, hlk, hbn, hle, hat, hkk⟩ := hui.at encO_len hlt
          subst he
          have hlk' : look b h' = some (.cells cc rw0) := by rw [hf2 b (by omega)]; exact hlk
          have hpi := hpg l[i] (List.getElem_mem hlt)
          have hki := (b4 l[i] (List.getElem_mem hlt)).1
          have k1 := fun a K => key10 l[i] hpi (by omega) a K
          obtain ⟨hC2, hxm⟩ := hC.more (kbytes l[i])
          have htk2 : (l.take i).map kbytes ++ [kbytes l[i]] = (l.take (i + 1)).map kbytes := by
            rw [List.take_add_one, List.getElem?_eq_getElem hlt, List.map_append]; rfl
          rw [htk2] at hC2
          obtain ⟨x, hxe⟩ : ∃ x, x = (mget M (kbytes l[i])).getD 0 := ⟨_, rfl⟩
          rw [← hxe] at hC2 hxm
          rw [List.length_map, List.length_take] at hxm
          have c2 := (lookup_map und41 keyS (show zeroV Try.prog 3 = some (.int .i64 0) by kernel_rfl) (a := ⟨n + 1, h', a.next, []⟩) (r := n) hM (kbytes l[i]) false).trans (by rw [if_neg (by simp)])
          have c3 : (mget M (kbytes l[i])).elim (.int .i64 0) evN = .int .i64 (x : Int) := by
            rw [hxe]
            cases mget M (kbytes l[i]) <;> rfl
          rw [c3] at c2
          simp only [ekS] at c2
          obtain ⟨mb, hup, hmb⟩ := update_map und41 keyS (a := ⟨n + 1, h', a.next, []⟩) (r := n) (M := M) hM (kbytes l[i]) (x + 1)
          have e1 : ((x + 1 : Nat) : Int) = (x : Int) + 1 := by omega
          simp only [ekS, evN, e1] at hup
          simp -dsimp (maxSteps := 4000000) (disch := first | omega | assumption | (simp only [FB, Nat.reduceAdd]; done) | (simp only [LB]; omega)) only [EB, ↓reduceIte, WB, Nat.reduceSub, Nat.reduceAdd, Int.reduceEq, Int.reduceNe, Int.reduceLT, Int.reduceLE, Int.reduceAdd, Int.reduceSub, Int.reduceMul, Int.reduceNeg, Int.reduceToNat, Nat.reduceEqDiff, Nat.reduceLT, Nat.reduceLeDiff, Nat.reduceMul, List.replicate, reduceCtorEq, TB, NB, MB, t0, t1, t2, t7, t8, t14, t15, show (i : Int) < l.length by omega, hlk', hat, k1, c2, wrap64, hup, write_soil, hwd]
          refine ⟨trivial, l.length - (i + 1), by omega, i + 1, _, setM M (kbytes l[i]) (x + 1), _, rfl, by omega, rfl, fun j hj => ?_, ?_, hC2, rfl, ?_⟩
          · rw [look_wput_ne (by omega), hf2 j hj]
          · obtain ⟨es, ck, he, -⟩ := hM
            rw [look_wput_self, he]
            exact hmb
          · simp only [ups_at, ↓reduceIte, Nat.reduceEqDiff]
            exact ⟨t0, t1, t2, t7, t8, t14, (by first | trivial | rfl | omega)⟩
        · obtain rfl : i = l.length := by omega
          rw [List.take_length] at hC
          have hml := map_len (a := ⟨n + 1, h', a.next, []⟩) hM
          have hCl := hC.len
          rw [List.length_map] at hCl
          by_cases hdup : M.length < l.length
          · simp -dsimp (maxSteps := 4000000) (disch := first | omega | assumption | (simp only [FB, Nat.reduceAdd]; done) | (simp only [LB]; omega)) only [EB, ↓reduceIte, WB, Nat.reduceSub, Nat.reduceAdd, Int.reduceEq, Int.reduceNe, Int.reduceLT, Int.reduceLE, Int.reduceAdd, Int.reduceSub, Int.reduceMul, Int.reduceNeg, Int.reduceToNat, Nat.reduceEqDiff, Nat.reduceLT, Nat.reduceLeDiff, Nat.reduceMul, List.replicate, reduceCtorEq, TB, NB, MB, t0, t1, t2, t7, t8, t14, t15, show ¬ (l.length : Int) < l.length by omega, op_len41, lenMap_map, hml, show (M.length : Int) < l.length by omega]
            exact ⟨(by first | trivial | rfl | omega), (by first | trivial | rfl | omega)⟩
          · have hnk := hC.apart (by rw [List.length_map]; omega)
            obtain ⟨R, hR⟩ : ∃ R, R = pickN k ((l.length : Int) + 1) := ⟨_, rfl⟩
            have hRb := pickN_bd k ((l.length : Int) + 1) (by omega)
            have hpk := fun a K => pick16 k ((l.length : Int) + 1) hk (by omega) a K
            rw [← hR] at hRb hpk
            have hp2 : (l.drop R.toNat ++ l.take R.toNat).Perm l := List.perm_append_comm.trans (by rw [List.take_append_drop])
            have hord := kept_order ps hp2.symm hnk
            rw [← hA] at hord
            have hu9 : RV encO 4 h' m (.slice po l.length co) l := hui.keep (Nat.le_refl _) fun j hj => hf2 j (by omega)
            have hv9 : RV encPr 2 h' m v ps := hvn.keep (Nat.le_refl _) fun j hj => hf2 j (by omega)
            have hA9 : RV encPr 2 h' n2 v2 A := hA3.keep (Nat.le_refl _) fun j hj => hf2 j (by omega)
            obtain ⟨v7, s7, r7, -⟩ := hu9.lo (E := Try.prog) encO_len und27 size24 (k := .i64) (i := R) (by omega) (by omega)
            obtain ⟨v8, s8, r8, -⟩ := hu9.hi (E := Try.prog) encO_len und27 size24 (k := .i64) (i := R) (by omega) (by omega)
            simp -dsimp (maxSteps := 4000000) (disch := first | omega | assumption | (simp only [FB, Nat.reduceAdd]; done) | (simp only [LB]; omega)) only [EB, ↓reduceIte, WB, Nat.reduceSub, Nat.reduceAdd, Int.reduceEq, Int.reduceNe, Int.reduceLT, Int.reduceLE, Int.reduceAdd, Int.reduceSub, Int.reduceMul, Int.reduceNeg, Int.reduceToNat, Nat.reduceEqDiff, Nat.reduceLT, Nat.reduceLeDiff, Nat.reduceMul, List.replicate, reduceCtorEq, TB, NB, MB, t0, t1, t2, t7, t8, t14, t15, show ¬ (l.length : Int) < l.length by omega, op_len41, lenMap_map, hml, show ¬ (M.length : Int) < l.length by omega, hpk, wrap64]
            refine code_draw [(0, 2), (0, 3), (0, 4), (0, 6), (0, 7), (0, 8), (1, 2), (1, 3), (1, 4), (1, 6), (1, 7), (1, 8), (2, 3), (2, 6), (2, 7), (2, 8), (3, 6), (3, 7), (3, 8), (4, 6), (4, 7), (4, 8), (5, 6), (5, 7), (5, 8), (6, 7), (12, 13), (13, 14)] (by decide +kernel) (by decide +kernel) ?_
            simp -dsimp (maxSteps := 4000000) (disch := first | omega | assumption | (simp only [FB, Nat.reduceAdd]; done) | (simp only [LB]; omega)) only [EB, ↓reduceIte, WB, Nat.reduceSub, Nat.reduceAdd, Int.reduceEq, Int.reduceNe, Int.reduceLT, Int.reduceLE, Int.reduceAdd, Int.reduceSub, Int.reduceMul, Int.reduceNeg, Int.reduceToNat, Nat.reduceEqDiff, Nat.reduceLT, Nat.reduceLeDiff, Nat.reduceMul, List.replicate, reduceCtorEq, RB, Nat.reduceEqDiff, TB, NB, MB, t0, t1, t2, t7, t8, t14, t15]
            refine own14 v ps (by omega) ⟨n + 1 + 1, h', n + 1 + 1, []⟩ m (by simp only; omega) hv9 _ fun w1 m1 g1 y1 y2 y3 y4 => ?_
            simp only at y1 y2 y3 y4
            simp -dsimp (maxSteps := 4000000) (disch := first | omega | assumption | (simp only [FB, Nat.reduceAdd]; done) | (simp only [LB]; omega)) only [EB, ↓reduceIte, WB, Nat.reduceSub, Nat.reduceAdd, Int.reduceEq, Int.reduceNe, Int.reduceLT, Int.reduceLE, Int.reduceAdd, Int.reduceSub, Int.reduceMul, Int.reduceNeg, Int.reduceToNat, Nat.reduceEqDiff, Nat.reduceLT, Nat.reduceLeDiff, Nat.reduceMul, List.replicate, reduceCtorEq, RB, Nat.reduceEqDiff, TB, NB, MB, t0, t1, t2, t7, t8, t14, t15, s7]
            refine own17 v7 (l.drop R.toNat) (by rw [List.length_drop]; omega) ⟨m1, g1, m1, []⟩ m (by simp only; omega) (r7.keep (Nat.le_refl _) fun j hj => y4 j (by omega)) _ fun w2 m2 g2 z1 z2 z3 z4 => ?_
            simp only at z1 z2 z3 z4
            have r8' : RV encO 4 g2 m v8 (l.take R.toNat) := r8.keep (Nat.le_refl _) fun j hj => by rw [z4 j (by omega), y4 j (by omega)]
            obtain ⟨w3, q3, m3, g3, d3, e3, o3, f1, f2, f3, f4, f5⟩ := append_own (E := Try.prog) (t0 := 27) (t1 := 27) (bs := m2) (d := []) app27 encO_len encO_one z3 r8' (by rw [List.length_drop, List.length_take]; omega)
            have hd3 : soilAll [] a.next d3 = [] := soil_back f5 (by omega)
            simp -dsimp (maxSteps := 4000000) (disch := first | omega | assumption | (simp only [FB, Nat.reduceAdd]; done) | (simp only [LB]; omega)) only [EB, ↓reduceIte, WB, Nat.reduceSub, Nat.reduceAdd, Int.reduceEq, Int.reduceNe, Int.reduceLT, Int.reduceLE, Int.reduceAdd, Int.reduceSub, Int.reduceMul, Int.reduceNeg, Int.reduceToNat, Nat.reduceEqDiff, Nat.reduceLT, Nat.reduceLeDiff, Nat.reduceMul, List.replicate, reduceCtorEq, RB, Nat.reduceEqDiff, TB, NB, MB, t0, t1, t2, t7, t8, t14, t15, s8, e3, hd3]
            have hw1 : RV encPr 2 g3 m1 w1 ps := y3.rv.keep (Nat.le_refl _) fun j hj => by rw [f4 j (by omega) (by omega), z4 j hj]
            refine merge13 w1 w3 ps (l.drop R.toNat ++ l.take R.toNat) (by omega) (by rw [hp2.length_eq]; omega) htk (fun o ho => hpg2 o (hp2.mem_iff.1 ho)) ⟨m3, g3, m3, []⟩ m3 (Nat.le_refl _) (hw1.keep (by omega) fun _ _ => rfl) o3.rv _ fun w4 m4 g4 p1 p2 p3 p4 => ?_
            simp only at p1 p2 p3 p4
            rw [hord] at p3
            have hlen9 := congrArg List.length hord
            rw [outM_len] at hlen9
            have hA10 : RV encPr 2 g4 n2 v2 A := hA9.keep (Nat.le_refl _) fun j hj => by rw [p4 j (by omega), f4 j (by omega) (by omega), z4 j (by omega), y4 j (by omega)]
            have fin := fun K => same15 v2 w4 A A (by omega) ⟨m4, g4, a.next, []⟩ m4 (Nat.le_refl _) (hA10.keep (by omega) fun _ _ => rfl) p3.rv K
            rw [decide_eq_true rfl] at fin
            rw [hlen9, hAl]
            simp -dsimp (maxSteps := 4000000) (disch := first | omega | assumption | (simp only [FB, Nat.reduceAdd]; done) | (simp only [LB]; omega)) only [EB, ↓reduceIte, WB, Nat.reduceSub, Nat.reduceAdd, Int.reduceEq, Int.reduceNe, Int.reduceLT, Int.reduceLE, Int.reduceAdd, Int.reduceSub, Int.reduceMul, Int.reduceNeg, Int.reduceToNat, Nat.reduceEqDiff, Nat.reduceLT, Nat.reduceLeDiff, Nat.reduceMul, List.replicate, reduceCtorEq, RB, Nat.reduceEqDiff, TB, NB, MB, ]
            simp -dsimp (maxSteps := 4000000) (disch := first | omega | assumption | (simp only [FB, Nat.reduceAdd]; done) | (simp only [LB]; omega)) only [EB, ↓reduceIte, WB, Nat.reduceSub, Nat.reduceAdd, Int.reduceEq, Int.reduceNe, Int.reduceLT, Int.reduceLE, Int.reduceAdd, Int.reduceSub, Int.reduceMul, Int.reduceNeg, Int.reduceToNat, Nat.reduceEqDiff, Nat.reduceLT, Nat.reduceLeDiff, Nat.reduceMul, List.replicate, reduceCtorEq, TB, NB, MB, t0, t1, t2, t7, t8, t14, t15, fin]
            exact ⟨(by first | trivial | rfl | omega), (by first | trivial | rfl | omega)⟩
  · rw [decide_eq_false hB] at hli
    simp -dsimp (maxSteps := 4000000) (disch := first | omega | assumption | (simp only [FB, Nat.reduceAdd]; done) | (simp only [LB]; omega)) only [EB, ↓reduceIte, WB, Nat.reduceSub, Nat.reduceAdd, Int.reduceEq, Int.reduceNe, Int.reduceLT, Int.reduceLE, Int.reduceAdd, Int.reduceSub, Int.reduceMul, Int.reduceNeg, Int.reduceToNat, Nat.reduceEqDiff, Nat.reduceLT, Nat.reduceLeDiff, Nat.reduceMul, List.replicate, reduceCtorEq, TB, NB, MB, lives8, hli]
    exact ⟨(by first | trivial | rfl | omega), (by first | trivial | rfl | omega)⟩
end Go.Proofs.YtdgpniekpmoadaaAM
