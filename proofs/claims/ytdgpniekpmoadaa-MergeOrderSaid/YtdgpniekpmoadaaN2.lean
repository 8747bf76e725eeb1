/- Chapter 26: MergeTwice. -/
import Derived.Test.YtdgpniekpmoadaaN1
namespace Go.Proofs.YtdgpniekpmoadaaAM
open Go Go.RowKit
set_option linter.unusedVariables false
set_option linter.unusedSimpArgs false
set_option maxRecDepth 10000
set_option maxHeartbeats 4000000

theorem look41 {a : AW} {r : Nat} {all : List Pr} (hM : MapIs ekS evN (look r a.heap) (idxM all 0)) (k : List UInt8) : lookupA Try.prog 41 (.map (some r)) (.string (mkStr k)) false a = some ((mget (idxM all 0) k).elim (.int .i64 0) evN) :=
  (lookup_map und41 keyS z3 hM k false).trans (by rw [if_neg (by simp)])
theorem twice5 (v u : Value) (ps : List Pr) (l : List Or') (hps : ps.length ≤ 140737488355328) (hl : l.length ≤ 140737488355328) (hx : ∀ x ∈ ps, x.key.length ≤ 140737488355328 ∧ x.val.length ≤ 140737488355328) (hpg : ∀ o ∈ l, 0 ≤ o.page ∧ o.page ≤ 4294967295) (a : AW) (m : Nat) (hm : m ≤ a.next) (hv : RV encPr 2 a.heap m v ps) (hu : RV encO 4 a.heap m u l) (K : Value → AW → Prop) :
    WCall Try.prog GV 5 [v, u] a K = K (.bool true) a := by
  refine call_eq ?_ K
  rw [call_env Try.func5 rfl Try.ntmps5 rfl rfl (by simp)]
  have hli := fun K => light12 v u ps l hps hl hx ⟨a.next, a.heap, a.next, []⟩ m hm hv hu K
  by_cases hB : lightB ps l
  · rw [decide_eq_true hB] at hli
    obtain ⟨⟨b1, b2⟩, b3, b4⟩ := hB
    obtain ⟨po, co, hue⟩ := hu.len
    subst hue
    have hpg2 : ∀ o ∈ l, (0 ≤ o.page ∧ o.page ≤ 4294967295) ∧ o.key.length ≤ 100000000 := fun o ho => ⟨hpg o ho, by have := (b4 o ho).1; omega⟩
    have htk : ∀ p ∈ ps, p.key.length ≤ 100000000 := fun p hp => by have := lightP_mem ps hp; omega
    obtain ⟨A, hA⟩ : ∃ A, A = outM (keptA ps l) := ⟨_, rfl⟩
    have hnd : ((keptA ps l).map (·.key)).Nodup := keptO_nodup l (keptT_nodup ps)
    have hAs : SrtP A := by rw [hA]; exact outM_srt hnd
    have hAl : A.length = (keptA ps l).length := by rw [hA, outM_len]
    have hk1 : (keptT ps).length ≤ (keptA ps l).length ∧ (keptA ps l).length ≤ (keptT ps).length + l.length := keptO_len (keptT ps) l
    have hk2 := keptT_len ps
    have hAk : ∀ p ∈ A, p.key.length ≤ 100000000 := fun p hp => by
      rw [hA, outM_mem hnd] at hp
      rcases kept_mem orP l (keptT ps) p hp with hp | ⟨o, ho, rfl⟩
      · rcases kept_mem (fun p => p) ps [] p hp with hp | ⟨o, ho, rfl⟩
        · cases hp
        · exact htk _ ho
      · have := (hpg2 o ho).2
        show (kbytes o).length ≤ _
        unfold kbytes
        simp only [List.length_append, List.length_cons, List.length_nil, List.length_take]
        omega
    have hag := kept_again ps l
    rw [← hA] at hag
    have hTT : keptA ps [] = keptT ps := rfl
    obtain ⟨B, hB⟩ : ∃ B, B = outM (keptT ps) := ⟨_, rfl⟩
    have hBl : B.length = (keptT ps).length := by rw [hB, outM_len]
    have hsA : sortB A = true := sortB_true (srt_iff.2 hAs)
    simp -dsimp (maxSteps := 4000000) (disch := first | omega | assumption | (simp only [FB, Nat.reduceAdd]; done) | (simp only [LB]; omega)) only [EB, ↓reduceIte, WB, Nat.reduceSub, Nat.reduceAdd, Int.reduceEq, Int.reduceNe, Int.reduceLT, Int.reduceLE, Int.reduceAdd, Int.reduceSub, Int.reduceMul, Int.reduceNeg, Int.reduceToNat, Nat.reduceEqDiff, Nat.reduceLT, Nat.reduceLeDiff, Nat.reduceMul, List.replicate, reduceCtorEq, TB, NB, MB, lives8, hli]
    refine own14 v ps (by omega) ⟨a.next, a.heap, a.next, []⟩ m hm hv _ fun v1 n1 h1 x1 x2 x3 x4 => ?_
    simp only at x1 x2 x3 x4
    have hu1 : RV encO 4 h1 m (.slice po l.length co) l := hu.keep (Nat.le_refl _) fun j hj => x4 j (by omega)
    simp -dsimp (maxSteps := 4000000) (disch := first | omega | assumption | (simp only [FB, Nat.reduceAdd]; done) | (simp only [LB]; omega)) only [EB, ↓reduceIte, WB, Nat.reduceSub, Nat.reduceAdd, Int.reduceEq, Int.reduceNe, Int.reduceLT, Int.reduceLE, Int.reduceAdd, Int.reduceSub, Int.reduceMul, Int.reduceNeg, Int.reduceToNat, Nat.reduceEqDiff, Nat.reduceLT, Nat.reduceLeDiff, Nat.reduceMul, List.replicate, reduceCtorEq, TB, NB, MB, ]
    refine merge13 v1 _ ps l (by omega) (by omega) htk hpg2 ⟨n1, h1, a.next, []⟩ n1 (Nat.le_refl _) x3.rv (hu1.keep (by omega) fun _ _ => rfl) _ fun v2 n2 h2 y1 y2 y3 y4 => ?_
    simp only at y1 y2 y3 y4
    rw [← hA] at y3
    have hu2 : RV encO 4 h2 m (.slice po l.length co) l := hu1.keep (Nat.le_refl _) fun j hj => y4 j (by omega)
    have hv2 : RV encPr 2 h2 m v ps := hv.keep (Nat.le_refl _) fun j hj => by rw [y4 j (by omega), x4 j (by omega)]
    simp -dsimp (maxSteps := 4000000) (disch := first | omega | assumption | (simp only [FB, Nat.reduceAdd]; done) | (simp only [LB]; omega)) only [EB, ↓reduceIte, WB, Nat.reduceSub, Nat.reduceAdd, Int.reduceEq, Int.reduceNe, Int.reduceLT, Int.reduceLE, Int.reduceAdd, Int.reduceSub, Int.reduceMul, Int.reduceNeg, Int.reduceToNat, Nat.reduceEqDiff, Nat.reduceLT, Nat.reduceLeDiff, Nat.reduceMul, List.replicate, reduceCtorEq, TB, NB, MB, ]
    refine own14 v2 A (by omega) ⟨n2, h2, a.next, []⟩ n2 (Nat.le_refl _) y3.rv _ fun v3 n3 h3 z1 z2 z3 z4 => ?_
    simp only at z1 z2 z3 z4
    have hu3 : RV encO 4 h3 m (.slice po l.length co) l := hu2.keep (Nat.le_refl _) fun j hj => z4 j (by omega)
    have hv3 : RV encPr 2 h3 m v ps := hv2.keep (Nat.le_refl _) fun j hj => z4 j (by omega)
    have hA3 : RV encPr 2 h3 n2 v2 A := y3.rv.keep (Nat.le_refl _) fun j hj => z4 j (by omega)
    simp -dsimp (maxSteps := 4000000) (disch := first | omega | assumption | (simp only [FB, Nat.reduceAdd]; done) | (simp only [LB]; omega)) only [EB, ↓reduceIte, WB, Nat.reduceSub, Nat.reduceAdd, Int.reduceEq, Int.reduceNe, Int.reduceLT, Int.reduceLE, Int.reduceAdd, Int.reduceSub, Int.reduceMul, Int.reduceNeg, Int.reduceToNat, Nat.reduceEqDiff, Nat.reduceLT, Nat.reduceLeDiff, Nat.reduceMul, List.replicate, reduceCtorEq, TB, NB, MB, ]
    refine merge13 v3 _ A l (by omega) (by omega) hAk hpg2 ⟨n3, h3, a.next, []⟩ n3 (Nat.le_refl _) z3.rv (hu3.keep (by omega) fun _ _ => rfl) _ fun v4 n4 h4 p1 p2 p3 p4 => ?_
    simp only at p1 p2 p3 p4
    rw [hag, outM_self hAs] at p3
    have hu4 : RV encO 4 h4 m (.slice po l.length co) l := hu3.keep (Nat.le_refl _) fun j hj => p4 j (by omega)
    have hv4 : RV encPr 2 h4 m v ps := hv3.keep (Nat.le_refl _) fun j hj => p4 j (by omega)
    have hA4 : RV encPr 2 h4 n2 v2 A := hA3.keep (Nat.le_refl _) fun j hj => p4 j (by omega)
    rw [hag, keptT_self (srt_keys hAs), Int.sub_self]
    simp -dsimp (maxSteps := 4000000) (disch := first | omega | assumption | (simp only [FB, Nat.reduceAdd]; done) | (simp only [LB]; omega)) only [EB, ↓reduceIte, WB, Nat.reduceSub, Nat.reduceAdd, Int.reduceEq, Int.reduceNe, Int.reduceLT, Int.reduceLE, Int.reduceAdd, Int.reduceSub, Int.reduceMul, Int.reduceNeg, Int.reduceToNat, Nat.reduceEqDiff, Nat.reduceLT, Nat.reduceLeDiff, Nat.reduceMul, List.replicate, reduceCtorEq, TB, NB, MB, ]
    refine own14 v ps (by omega) ⟨n4, h4, a.next, []⟩ m (by simp only; omega) hv4 _ fun v5 n5 h5 q1 q2 q3 q4 => ?_
    simp only at q1 q2 q3 q4
    have hu5 : RV encO 4 h5 m (.slice po l.length co) l := hu4.keep (Nat.le_refl _) fun j hj => q4 j (by omega)
    have hA5 : RV encPr 2 h5 n2 v2 A := hA4.keep (Nat.le_refl _) fun j hj => q4 j (by omega)
    have hC5 : RV encPr 2 h5 n4 v4 A := p3.rv.keep (Nat.le_refl _) fun j hj => q4 j (by omega)
    simp -dsimp (maxSteps := 4000000) (disch := first | omega | assumption | (simp only [FB, Nat.reduceAdd]; done) | (simp only [LB]; omega)) only [EB, ↓reduceIte, WB, Nat.reduceSub, Nat.reduceAdd, Int.reduceEq, Int.reduceNe, Int.reduceLT, Int.reduceLE, Int.reduceAdd, Int.reduceSub, Int.reduceMul, Int.reduceNeg, Int.reduceToNat, Nat.reduceEqDiff, Nat.reduceLT, Nat.reduceLeDiff, Nat.reduceMul, List.replicate, reduceCtorEq, TB, NB, MB, ]
    refine merge13 v5 (.slice none 0 0) ps [] (by omega) (by simp) htk (fun o ho => by cases ho) ⟨n5, h5, a.next, []⟩ n5 (Nat.le_refl _) q3.rv (.inl ⟨rfl, rfl⟩) _ fun v6 n6 h6 r1 r2 r3 r4 => ?_
    simp only at r1 r2 r3 r4
    have hu6 : RV encO 4 h6 m (.slice po l.length co) l := hu5.keep (Nat.le_refl _) fun j hj => r4 j (by omega)
    have hA6 : RV encPr 2 h6 n2 v2 A := hA5.keep (Nat.le_refl _) fun j hj => r4 j (by omega)
    have hC6 : RV encPr 2 h6 n4 v4 A := hC5.keep (Nat.le_refl _) fun j hj => r4 j (by omega)
    rw [hTT, ← hB] at r3
    rw [hTT, Int.sub_self]
    have f1 := fun K => same15 v2 v4 A A (by omega) ⟨n6, h6, a.next, []⟩ n4 (by simp only; omega) (hA6.keep (by omega) fun _ _ => rfl) hC6 K
    have f2 := fun K => sorted18 v2 A (by omega) ⟨n6, h6, a.next, []⟩ n2 (by simp only; omega) hA6 K
    rw [decide_eq_true rfl] at f1
    rw [hsA] at f2
    obtain ⟨pa, ca, hae⟩ := hA6.len
    subst hae
    have r3' := r3.rv
    obtain ⟨pb, cb, hbe⟩ := r3'.len
    subst hbe
    rw [← hBl, ← hAl]
    have hz51 : zeroV Try.prog 51 = some (.map none) := by kernel_rfl
    simp -dsimp (maxSteps := 4000000) (disch := first | omega | assumption | (simp only [FB, Nat.reduceAdd]; done) | (simp only [LB]; omega)) only [EB, ↓reduceIte, WB, Nat.reduceSub, Nat.reduceAdd, Int.reduceEq, Int.reduceNe, Int.reduceLT, Int.reduceLE, Int.reduceAdd, Int.reduceSub, Int.reduceMul, Int.reduceNeg, Int.reduceToNat, Nat.reduceEqDiff, Nat.reduceLT, Nat.reduceLeDiff, Nat.reduceMul, List.replicate, reduceCtorEq, TB, NB, MB, f1, f2, wrap64, show (B.length : Int) + (A.length - B.length) = A.length by omega, show ¬ (l.length : Int) < (A.length : Int) - B.length by omega]
    have hnA := srt_keys hAs
    have hwd : soilW a.next [] n6 = [] := by unfold soilW; rw [if_neg (by omega)]
    refine loop_inv (fun r t w => ∃ i h, ∃ e : Nat → Value, r = A.length - i ∧ i ≤ A.length ∧ w = ⟨n6 + 1, h, a.next, []⟩ ∧ (∀ j, j < n6 → look j h = look j h6) ∧ MapIs ekS evN (look n6 h) (idxM (A.take i) 0) ∧ t = TT 130 e ∧ e 1 = .slice po l.length co ∧ e 5 = .slice pa A.length ca ∧ e 9 = .slice pb B.length cb ∧ e 11 = .map (some n6) ∧ e 12 = .int .i64 i)
      ⟨0, _, _, rfl, by omega, rfl, fun j hj => look_miss (by omega), by rw [look_self]; exact map_new, rfl, rfl, rfl, rfl, rfl, rfl⟩ ?_
    rintro r t w ⟨i, h, e, rfl, hi, rfl, hf, hM, rfl, t1, t5, t9, t11, t12⟩
    by_cases hlt : i < A.length
    · obtain ⟨b, o, sp, rw0, cc, he, hlk, hbn, hle, hat, hkk⟩ := hA6.at encPr_len hlt
      subst he
      have k0 : cc[o + i * 2]? = some (.string (mkStr A[i].key)) := by have := hkk 0 (by omega); simpa [encPr] using this
      have hlk' : look b h = some (.cells cc rw0) := by rw [hf b (by omega)]; exact hlk
      have hno : hasK (A.take i) A[i].key = false := by
        cases hc : hasK (A.take i) A[i].key with
        | false => rfl
        | true =>
          obtain ⟨j, hj, -, h2⟩ := idxM_mem hc
          rw [List.length_take] at hj
          rw [List.getElem_take] at h2
          have := idx_inj (l := A.map fun p : Pr => p.key) hnA (i := j) (j := i) (by simp; omega) (by simp; omega) (by simpa using h2)
          omega
      obtain ⟨mb, hup, hmb⟩ := update_map und41 keyS (a := ⟨n6 + 1, h, a.next, []⟩) (r := n6) (M := idxM (A.take i) 0) hM A[i].key (i + 1)
      rw [setM_new (idxM_none _ _ _ hno)] at hmb
      have happ : idxM (A.take (i + 1)) 0 = idxM (A.take i) 0 ++ [(A[i].key, i + 1)] := by
        rw [List.take_add_one, List.getElem?_eq_getElem hlt]
        show idxM (A.take i ++ [A[i]]) 0 = _
        rw [idxM_app, List.length_take]
        congr 3; omega
      rw [← happ] at hmb
      have e1 : ((i + 1 : Nat) : Int) = (i : Int) + 1 := by omega
      simp only [ekS, evN, e1] at hup
      simp -dsimp (maxSteps := 4000000) (disch := first | omega | assumption | (simp only [FB, Nat.reduceAdd]; done) | (simp only [LB]; omega)) only [EB, ↓reduceIte, WB, Nat.reduceSub, Nat.reduceAdd, Int.reduceEq, Int.reduceNe, Int.reduceLT, Int.reduceLE, Int.reduceAdd, Int.reduceSub, Int.reduceMul, Int.reduceNeg, Int.reduceToNat, Nat.reduceEqDiff, Nat.reduceLT, Nat.reduceLeDiff, Nat.reduceMul, List.replicate, reduceCtorEq, TB, NB, MB, t1, t5, t9, t11, t12, show (i : Int) < A.length by omega, hlk', k0, wrap64, hup, write_soil, hwd]
      refine ⟨trivial, A.length - (i + 1), by omega, i + 1, _, _, rfl, by omega, rfl, fun j hj => ?_, ?_, rfl, ?_⟩
      · rw [look_wput_ne (by omega), hf j hj]
      · obtain ⟨es, ck, he, -⟩ := hM
        rw [look_wput_self, he]
        exact hmb
      · simp only [ups_at, ↓reduceIte, Nat.reduceEqDiff]
        exact ⟨t1, t5, t9, t11, (by first | trivial | rfl | omega)⟩
    · obtain rfl : i = A.length := by omega
      rw [List.take_length] at hM
      simp -dsimp (maxSteps := 4000000) (disch := first | omega | assumption | (simp only [FB, Nat.reduceAdd]; done) | (simp only [LB]; omega)) only [EB, ↓reduceIte, WB, Nat.reduceSub, Nat.reduceAdd, Int.reduceEq, Int.reduceNe, Int.reduceLT, Int.reduceLE, Int.reduceAdd, Int.reduceSub, Int.reduceMul, Int.reduceNeg, Int.reduceToNat, Nat.reduceEqDiff, Nat.reduceLT, Nat.reduceLeDiff, Nat.reduceMul, List.replicate, reduceCtorEq, TB, NB, MB, t1, t5, t9, t11, t12, show ¬ (A.length : Int) < A.length by omega]
      refine loop_inv (fun r t w => ∃ i n, ∃ e : Nat → Value, r = B.length - i ∧ i ≤ B.length ∧ w = ⟨n, h, a.next, []⟩ ∧ n6 + 1 ≤ n ∧ t = TT 130 e ∧ e 1 = .slice po l.length co ∧ e 5 = .slice pa A.length ca ∧ e 9 = .slice pb B.length cb ∧ e 11 = .map (some n6) ∧ e 13 = .int .i64 i)
        ⟨0, _, _, rfl, by omega, rfl, Nat.le_refl _, rfl, by simp only [ups_at, ↓reduceIte, Nat.reduceEqDiff]; exact t1, by simp only [ups_at, ↓reduceIte, Nat.reduceEqDiff]; exact t5, by simp only [ups_at, ↓reduceIte, Nat.reduceEqDiff]; exact t9, by simp only [ups_at, ↓reduceIte, Nat.reduceEqDiff]; exact t11, rfl⟩ ?_
      clear t1 t5 t9 t11 t12
      rintro r t w ⟨i, n, e, rfl, hi, rfl, hn, rfl, t1, t5, t9, t11, t13⟩
      by_cases hlt : i < B.length
      · obtain ⟨b, o, sp, rw0, cc, he, hlk, hbn, hle, hat, hkk⟩ := r3'.at encPr_len hlt
        subst he
        have hlk' : look b h = some (.cells cc rw0) := by rw [hf b (by omega)]; exact hlk
        have k0 : cc[o + i * 2]? = some (.string (mkStr B[i].key)) := by have := hkk 0 (by omega); simpa [encPr] using this
        have hin : B[i] ∈ A := by
          have hmB : ∀ x, x ∈ B → x ∈ keptT ps := fun x hx => by rw [hB] at hx; exact (outM_mem (keptT_nodup ps) _).1 hx
          have h1 := hmB _ (List.getElem_mem hlt)
          rw [hA, outM_mem hnd]
          exact keptO_sub l _ _ h1
        obtain ⟨j, hj, g1, g2⟩ := idxM_mem (A := A) (k := B[i].key) (hasK_iff.2 (List.mem_map_of_mem hin))
        have hsame : A[j] = B[i] := same_key hnA (List.getElem_mem hj) hin g2
        have c2 := look41 (a := ⟨n, h, a.next, []⟩) (r := n6) (all := A) hM B[i].key
        rw [g1] at c2
        simp only [Option.elim, evN] at c2
        obtain ⟨b', o', sp', rw0', cc', he', hlk2, hbn2, hle2, hat2, -⟩ := hA6.at encPr_len hj
        subst he'
        have hlk2' : look b' h = some (.cells cc' rw0') := by rw [hf b' (by omega)]; exact hlk2
        simp -dsimp (maxSteps := 4000000) (disch := first | omega | assumption | (simp only [FB, Nat.reduceAdd]; done) | (simp only [LB]; omega)) only [EB, ↓reduceIte, WB, Nat.reduceSub, Nat.reduceAdd, Int.reduceEq, Int.reduceNe, Int.reduceLT, Int.reduceLE, Int.reduceAdd, Int.reduceSub, Int.reduceMul, Int.reduceNeg, Int.reduceToNat, Nat.reduceEqDiff, Nat.reduceLT, Nat.reduceLeDiff, Nat.reduceMul, List.replicate, reduceCtorEq, TB, NB, MB, t1, t5, t9, t11, t13, show (i : Int) < B.length by omega, hlk', k0, c2]
        refine code_draw [(3, 4), (3, 5), (3, 8), (3, 9), (3, 10), (3, 11), (4, 8), (4, 9), (4, 10), (4, 11), (5, 8), (5, 9), (5, 10), (5, 11), (6, 8), (6, 9), (6, 10), (6, 11), (7, 8), (7, 9), (7, 10), (7, 11), (8, 9)] (by decide +kernel) (by decide +kernel) ?_
        simp -dsimp (maxSteps := 4000000) (disch := first | omega | assumption | (simp only [FB, Nat.reduceAdd]; done) | (simp only [LB]; omega)) only [EB, ↓reduceIte, WB, Nat.reduceSub, Nat.reduceAdd, Int.reduceEq, Int.reduceNe, Int.reduceLT, Int.reduceLE, Int.reduceAdd, Int.reduceSub, Int.reduceMul, Int.reduceNeg, Int.reduceToNat, Nat.reduceEqDiff, Nat.reduceLT, Nat.reduceLeDiff, Nat.reduceMul, List.replicate, reduceCtorEq, RB, Nat.reduceEqDiff, TB, NB, MB, t1, t5, t9, t11, t13, wrap64, show ((j + 1 : Nat) : Int) - 1 = (j : Int) by omega, hlk2', hat2, hlk', hat, neq39, hsame, show ¬ ((j + 1 : Nat) : Int) = 0 by omega, show b < n + 1 by omega, show b' < n + 1 by omega]
        refine ⟨B.length - (i + 1), by omega, i + 1, n + 1, _, rfl, by omega, rfl, by omega, rfl, ?_⟩
        simp only [ups_at, ↓reduceIte, Nat.reduceEqDiff]
        exact ⟨t1, t5, t9, t11, (by first | trivial | rfl | omega)⟩
      · obtain rfl : i = B.length := by omega
        simp -dsimp (maxSteps := 4000000) (disch := first | omega | assumption | (simp only [FB, Nat.reduceAdd]; done) | (simp only [LB]; omega)) only [EB, ↓reduceIte, WB, Nat.reduceSub, Nat.reduceAdd, Int.reduceEq, Int.reduceNe, Int.reduceLT, Int.reduceLE, Int.reduceAdd, Int.reduceSub, Int.reduceMul, Int.reduceNeg, Int.reduceToNat, Nat.reduceEqDiff, Nat.reduceLT, Nat.reduceLeDiff, Nat.reduceMul, List.replicate, reduceCtorEq, TB, NB, MB, t1, t5, t9, t11, t13, show ¬ (B.length : Int) < B.length by omega]
        refine loop_inv (fun r t w => ∃ i n, ∃ e : Nat → Value, r = l.length - i ∧ i ≤ l.length ∧ w = ⟨n, h, a.next, []⟩ ∧ n6 + 1 ≤ n ∧ t = TT 130 e ∧ e 1 = .slice po l.length co ∧ e 11 = .map (some n6) ∧ e 15 = .int .i64 i)
          ⟨0, _, _, rfl, by omega, rfl, by omega, rfl, by simp only [ups_at, ↓reduceIte, Nat.reduceEqDiff]; exact t1, by simp only [ups_at, ↓reduceIte, Nat.reduceEqDiff]; exact t11, rfl⟩ ?_
        clear t1 t5 t9 t11 t13
        rintro r t w ⟨i, n', e, rfl, hi, rfl, hn', rfl, t1, t11, t15⟩
        by_cases hlt : i < l.length
        · obtain ⟨b, o, sp, rw0, cc, he, hlk, hbn, hle, hat, hkk⟩ := hu6.at encO_len hlt
          subst he
          have hlk' : look b h = some (.cells cc rw0) := by rw [hf b (by omega)]; exact hlk
          have hpi := hpg l[i] (List.getElem_mem hlt)
          have hki := (b4 l[i] (List.getElem_mem hlt)).1
          have k1 := fun a K => key10 l[i] hpi (by omega) a K
          have hh : hasK A (kbytes l[i]) = true := by rw [hA, hasK_out hnd]; exact keptO_has l _ _ (List.getElem_mem hlt)
          obtain ⟨j, hj, g1, -⟩ := idxM_mem hh
          have c2 := fun N => look41 (a := ⟨N, h, a.next, []⟩) (r := n6) (all := A) hM (kbytes l[i])
          rw [g1] at c2
          simp only [Option.elim, evN] at c2
          simp -dsimp (maxSteps := 4000000) (disch := first | omega | assumption | (simp only [FB, Nat.reduceAdd]; done) | (simp only [LB]; omega)) only [EB, ↓reduceIte, WB, Nat.reduceSub, Nat.reduceAdd, Int.reduceEq, Int.reduceNe, Int.reduceLT, Int.reduceLE, Int.reduceAdd, Int.reduceSub, Int.reduceMul, Int.reduceNeg, Int.reduceToNat, Nat.reduceEqDiff, Nat.reduceLT, Nat.reduceLeDiff, Nat.reduceMul, List.replicate, reduceCtorEq, TB, NB, MB, t1, t11, t15, show (i : Int) < l.length by omega, hlk', hat, k1, c2, wrap64, show ¬ ((j + 1 : Nat) : Int) = 0 by omega]
          refine ⟨trivial, l.length - (i + 1), by omega, i + 1, n', _, rfl, by omega, rfl, by omega, rfl, ?_⟩
          simp only [ups_at, ↓reduceIte, Nat.reduceEqDiff]
          exact ⟨t1, t11, (by first | trivial | rfl | omega)⟩
        · obtain rfl : i = l.length := by omega
          simp -dsimp (maxSteps := 4000000) (disch := first | omega | assumption | (simp only [FB, Nat.reduceAdd]; done) | (simp only [LB]; omega)) only [EB, ↓reduceIte, WB, Nat.reduceSub, Nat.reduceAdd, Int.reduceEq, Int.reduceNe, Int.reduceLT, Int.reduceLE, Int.reduceAdd, Int.reduceSub, Int.reduceMul, Int.reduceNeg, Int.reduceToNat, Nat.reduceEqDiff, Nat.reduceLT, Nat.reduceLeDiff, Nat.reduceMul, List.replicate, reduceCtorEq, TB, NB, MB, t1, t11, t15, show ¬ (l.length : Int) < l.length by omega]
          exact ⟨(by first | trivial | rfl | omega), (by first | trivial | rfl | omega)⟩
  · rw [decide_eq_false hB] at hli
    simp -dsimp (maxSteps := 4000000) (disch := first | omega | assumption | (simp only [FB, Nat.reduceAdd]; done) | (simp only [LB]; omega)) only [EB, ↓reduceIte, WB, Nat.reduceSub, Nat.reduceAdd, Int.reduceEq, Int.reduceNe, Int.reduceLT, Int.reduceLE, Int.reduceAdd, Int.reduceSub, Int.reduceMul, Int.reduceNeg, Int.reduceToNat, Nat.reduceEqDiff, Nat.reduceLT, Nat.reduceLeDiff, Nat.reduceMul, List.replicate, reduceCtorEq, TB, NB, MB, lives8, hli]
    exact ⟨(by first | trivial | rfl | omega), (by first | trivial | rfl | omega)⟩
end Go.Proofs.YtdgpniekpmoadaaAM
