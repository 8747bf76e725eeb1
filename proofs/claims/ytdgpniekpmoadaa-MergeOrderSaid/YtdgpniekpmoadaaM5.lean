/- Chapter 26: Merge, walked. -/
import Derived.Test.YtdgpniekpmoadaaM4
namespace Go.Proofs.YtdgpniekpmoadaaAM
open Go Go.RowKit
set_option linter.unusedVariables false
set_option linter.unusedSimpArgs false
set_option maxRecDepth 10000
set_option maxHeartbeats 4000000

theorem not_in {L : List Nat} {r b q x : Nat} (h : ∀ y ∈ L, y = r ∨ y = b ∨ y = q) (h1 : x ≠ r) (h2 : x ≠ b) (h3 : x ≠ q) : L.contains x = false := by
  cases hc : L.contains x with
  | false => rfl
  | true =>
    rw [List.contains_iff_mem] at hc
    rcases h x hc with rfl | rfl | rfl
    · exact absurd rfl h1
    · exact absurd rfl h2
    · exact absurd rfl h3
theorem soil_sub {bs : Nat} {x : Nat} : ∀ {L : List Nat}, x ∈ soilAll [] bs L → x ∈ L
  | [], h => h
  | y :: L, h => by
    have e : soilAll [] bs (y :: L) = if y < bs then (if (soilAll [] bs L).contains y then soilAll [] bs L else y :: soilAll [] bs L) else soilAll [] bs L := rfl
    rw [e] at h
    split at h
    · split at h
      · exact .tail _ (soil_sub h)
      · rcases List.mem_cons.1 h with rfl | h
        · exact .head _
        · exact .tail _ (soil_sub h)
    · exact .tail _ (soil_sub h)
/-- What Merge has between two rounds. -/
structure MS (N : Nat) (h0 : List (Nat × Blk)) (n : Nat) (h : List (Nat × Blk)) (q : Nat) (v : Value) (all : List Pr) : Prop where
  ge : N + 3 ≤ n
  old : ∀ j, j < N → look j h = look j h0
  mp : look (N + 1) h = some (.cells [.map (some N)] true)
  mo : MapIs ekS evN (look N h) (idxM all 0)
  al : look (N + 2) h = some (.cells [v] true)
  ow : OwnS encPr 2 h n q v all
  q3 : N + 3 ≤ q
theorem MS.push {N n q : Nat} {h0 h : List (Nat × Blk)} {v : Value} {all : List Pr} (s : MS N h0 n h q v all) (b : Blk) : ∃ q', MS N h0 (n + 1) ((n, b) :: h) q' v all ∧ (q' < n ∨ n + 2 ≤ q') := by
  obtain ⟨s1, s2, s3, s4, s5, s6, s7⟩ := s
  obtain ⟨q', h1, h2⟩ := s6.renew (n + 2) (by omega)
  exact ⟨q', ⟨by omega, fun j hj => by rw [look_miss (by omega)]; exact s2 j hj, by rw [look_miss (by omega)]; exact s3, by rw [look_miss (by omega)]; exact s4, by rw [look_miss (by omega)]; exact s5, h1.keep (by omega) fun hq => look_miss (by omega), by omega⟩, by omega⟩
/-- One pair is put. -/
theorem put_ms (p : Pr) {N n q : Nat} {h0 h : List (Nat × Blk)} {v : Value} {all : List Pr} (s : MS N h0 n h q v all) (hl : all.length ≤ 100000) (bs : Nat) (hbs : bs = N ∨ N + 3 ≤ bs ∧ bs ≤ n) (K : Value → AW → Prop)
    (hold : hasK all p.key = true → K (.bool false) ⟨n, h, bs, []⟩)
    (hnew : hasK all p.key = false → ∀ v' q' n' h' L, (∀ x ∈ L, x = N ∨ x = N + 2 ∨ x = q) → MS N h0 n' h' q' v' (all ++ [p]) → n ≤ n' → (∀ j, j < n → j ≠ N → j ≠ N + 2 → j ≠ q → look j h' = look j h) → K (.bool true) ⟨n', h', bs, soilAll [] bs L⟩) :
    WCall Try.prog GV 25 [.agg (encPr p).toArray, .pointer (some ⟨N + 1, 0, none⟩), .pointer (some ⟨N + 2, 0, none⟩)] ⟨n, h, bs, []⟩ K := by
  obtain ⟨s1, s2, s3, s4, s5, s6, s7⟩ := s
  refine put25 p (N + 1) (N + 2) N q v all hl ⟨n, h, bs, []⟩ (by simp only; omega) (by simp only; omega) (by simp only; omega) (by omega) s3 s4 s5 s6 K hold fun hk v' q' n' h' L hL hn hb hM ho hq hf => ?_
  simp only at hn hq hf
  obtain ⟨q2, o2, o3⟩ := ho.renew (n' + N + 3) (by omega)
  exact hnew hk v' q2 n' h' L hL ⟨by omega, fun j hj => by rw [hf j (by omega) (by omega) (by omega) (by omega)]; exact s2 j hj, by rw [hf _ (by omega) (by omega) (by omega) (by omega)]; exact s3, hM, hb, o2, by omega⟩ hn hf
theorem merge13 (v u : Value) (there : List Pr) (l : List Or') (hth : there.length ≤ 1000) (hll : l.length ≤ 1000) (htk : ∀ p ∈ there, p.key.length ≤ 100000000) (hpg : ∀ o ∈ l, (0 ≤ o.page ∧ o.page ≤ 4294967295) ∧ o.key.length ≤ 100000000) (a : AW) (m : Nat) (hm : m ≤ a.next) (hv : RV encPr 2 a.heap m v there) (hu : RV encO 4 a.heap m u l) (K : Value → AW → Prop)
    (hK : ∀ v' n' h', a.next ≤ n' → n' ≤ a.next + 1 → OwnS encPr 2 h' n' a.next v' (outM (keptA there l)) → (∀ j, j < a.next → look j h' = look j a.heap) → K (.tuple #[v', .int .i64 (((keptA there l).length : Int) - (keptT there).length)]) ⟨n', h', a.base, a.dirty⟩) :
    WCall Try.prog GV 13 [v, u] a K := by
  rw [call_env Try.func13 rfl Try.ntmps13 rfl rfl (by simp)]
  obtain ⟨pp, c, rfl⟩ := hv.len
  obtain ⟨po, co, rfl⟩ := hu.len
  obtain ⟨N, hN⟩ : ∃ N, N = a.next := ⟨_, rfl⟩
  rw [← hN]
  have hz51 : zeroV Try.prog 51 = some (.map none) := by kernel_rfl
  simp -dsimp (maxSteps := 4000000) (disch := first | omega | assumption | (simp only [FB, Nat.reduceAdd]; done) | (simp only [LB]; omega)) only [EB, ↓reduceIte, WB, Nat.reduceSub, Nat.reduceAdd, Int.reduceEq, Int.reduceNe, Int.reduceLT, Int.reduceLE, Int.reduceAdd, Int.reduceSub, Int.reduceMul, Int.reduceNeg, Int.reduceToNat, Nat.reduceEqDiff, Nat.reduceLT, Nat.reduceLeDiff, Nat.reduceMul, List.replicate, reduceCtorEq, TB, NB, MB, hz51]
  refine loop_inv (fun r t w => ∃ i n h q v, ∃ e : Nat → Value, r = there.length - i ∧ i ≤ there.length ∧ w = ⟨n, h, N, []⟩ ∧ MS N a.heap n h q v (keptT (there.take i)) ∧ t = TT 64 e ∧ e 1 = .slice po l.length co ∧ e 4 = .slice none 0 0 ∧ e 5 = .int .i64 0 ∧ e 6 = .pointer (some ⟨N + 1, 0, none⟩) ∧ e 7 = .pointer (some ⟨N + 2, 0, none⟩) ∧ e 8 = .func (.func 25) #[] #[.pointer (some ⟨N + 1, 0, none⟩), .pointer (some ⟨N + 2, 0, none⟩)] ∧ e 17 = .slice pp there.length c ∧ e 18 = .int .i64 there.length ∧ e 19 = .int .i64 i)
    ⟨0, N + 3, _, N + 3, _, _, rfl, by omega, rfl, ⟨Nat.le_refl _, fun j hj => by rw [look_miss (by omega), look_miss (by omega), look_miss (by omega)], by rw [look_miss (by omega), look_self], by rw [look_miss (by omega), look_miss (by omega), look_self]; exact map_new, look_self, .inl ⟨rfl, rfl⟩, Nat.le_refl _⟩, rfl, rfl, rfl, rfl, rfl, rfl, rfl, rfl, rfl, rfl⟩ ?_
  rintro r t w ⟨i, n, h, q, vo, e, rfl, hi, rfl, hs, rfl, t1, t4, t5, t6, t7, t8, t17, t18, t19⟩
  have hge := hs.ge
  by_cases hlt : i < there.length
  · obtain ⟨b, o, sp, rw0, cc, rfl, hlk, hbn, hle, hat, -⟩ := hv.at encPr_len hlt
    have hlk' : look b h = some (.cells cc rw0) := by rw [hs.old b (by omega)]; exact hlk
    obtain ⟨q2, hs2, hq2⟩ := hs.push (.cells (encPr there[i]) true)
    have hsu := keptT_succ there i hlt
    have hkl := keptT_len (there.take i)
    rw [List.length_take] at hkl
    simp -dsimp (maxSteps := 4000000) (disch := first | omega | assumption | (simp only [FB, Nat.reduceAdd]; done) | (simp only [LB]; omega)) only [EB, ↓reduceIte, WB, Nat.reduceSub, Nat.reduceAdd, Int.reduceEq, Int.reduceNe, Int.reduceLT, Int.reduceLE, Int.reduceAdd, Int.reduceSub, Int.reduceMul, Int.reduceNeg, Int.reduceToNat, Nat.reduceEqDiff, Nat.reduceLT, Nat.reduceLeDiff, Nat.reduceMul, List.replicate, reduceCtorEq, TB, NB, MB, t1, t4, t5, t6, t7, t8, t17, t18, t19, show (i : Int) < there.length by omega, hlk', hat, encPr]
    refine put_ms there[i] hs2 (by omega) N (.inl rfl) _ (fun hk => ?_) fun hk v' q' n' h' L hL hms hn' hf => ?_
    · simp -dsimp (maxSteps := 4000000) (disch := first | omega | assumption | (simp only [FB, Nat.reduceAdd]; done) | (simp only [LB]; omega)) only [EB, ↓reduceIte, WB, Nat.reduceSub, Nat.reduceAdd, Int.reduceEq, Int.reduceNe, Int.reduceLT, Int.reduceLE, Int.reduceAdd, Int.reduceSub, Int.reduceMul, Int.reduceNeg, Int.reduceToNat, Nat.reduceEqDiff, Nat.reduceLT, Nat.reduceLeDiff, Nat.reduceMul, List.replicate, reduceCtorEq, TB, NB, MB, t19, wrap64]
      refine ⟨trivial, there.length - (i + 1), by omega, i + 1, n + 1, _, q2, vo, _, rfl, by omega, rfl, ?_, rfl, ?_⟩
      · rw [hsu, addP, if_pos hk]; exact hs2
      · simp only [ups_at, ↓reduceIte, Nat.reduceEqDiff]; exact ⟨t1, t4, t5, t6, t7, t8, t17, t18, (by first | trivial | rfl | omega)⟩
    · have hd : soilAll [] N L = [] := soil_L fun x hx => by have := hL x hx; have := hs2.q3; omega
      rw [hd]
      simp -dsimp (maxSteps := 4000000) (disch := first | omega | assumption | (simp only [FB, Nat.reduceAdd]; done) | (simp only [LB]; omega)) only [EB, ↓reduceIte, WB, Nat.reduceSub, Nat.reduceAdd, Int.reduceEq, Int.reduceNe, Int.reduceLT, Int.reduceLE, Int.reduceAdd, Int.reduceSub, Int.reduceMul, Int.reduceNeg, Int.reduceToNat, Nat.reduceEqDiff, Nat.reduceLT, Nat.reduceLeDiff, Nat.reduceMul, List.replicate, reduceCtorEq, TB, NB, MB, t19, wrap64]
      refine ⟨trivial, there.length - (i + 1), by omega, i + 1, n', h', q', v', _, rfl, by omega, rfl, ?_, rfl, ?_⟩
      · rw [hsu, addP, if_neg (by rw [hk]; simp)]; exact hms
      · simp only [ups_at, ↓reduceIte, Nat.reduceEqDiff]; exact ⟨t1, t4, t5, t6, t7, t8, t17, t18, (by first | trivial | rfl | omega)⟩
  · obtain rfl : i = there.length := by omega
    rw [List.take_length] at hs
    obtain ⟨T, hT⟩ : ∃ T, T = keptT there := ⟨_, rfl⟩
    have hTl := keptT_len there
    have hA : keptA there l = keptO T l := by rw [hT]; rfl
    rw [hA, ← hT] at hK
    rw [← hT] at hs hTl
    simp -dsimp (maxSteps := 4000000) (disch := first | omega | assumption | (simp only [FB, Nat.reduceAdd]; done) | (simp only [LB]; omega)) only [EB, ↓reduceIte, WB, Nat.reduceSub, Nat.reduceAdd, Int.reduceEq, Int.reduceNe, Int.reduceLT, Int.reduceLE, Int.reduceAdd, Int.reduceSub, Int.reduceMul, Int.reduceNeg, Int.reduceToNat, Nat.reduceEqDiff, Nat.reduceLT, Nat.reduceLeDiff, Nat.reduceMul, List.replicate, reduceCtorEq, TB, NB, MB, t1, t4, t5, t6, t7, t8, t17, t18, t19, show ¬ (there.length : Int) < there.length by omega]
    refine loop_inv (fun r t w => ∃ i n h q v, ∃ e : Nat → Value, r = l.length - i ∧ i ≤ l.length ∧ w = ⟨n, h, N, []⟩ ∧ MS N a.heap n h q v (keptO T (l.take i)) ∧ t = TT 64 e ∧ e 4 = .slice none 0 0 ∧ e 5 = .int .i64 (((keptO T (l.take i)).length : Int) - T.length) ∧ e 6 = .pointer (some ⟨N + 1, 0, none⟩) ∧ e 7 = .pointer (some ⟨N + 2, 0, none⟩) ∧ e 8 = .func (.func 25) #[] #[.pointer (some ⟨N + 1, 0, none⟩), .pointer (some ⟨N + 2, 0, none⟩)] ∧ e 27 = .slice po l.length co ∧ e 28 = .int .i64 l.length ∧ e 29 = .int .i64 i)
      ⟨0, n, h, q, vo, _, rfl, by omega, rfl, hs, rfl, by simp only [ups_at, ↓reduceIte, Nat.reduceEqDiff]; exact t4, by simp only [ups_at, ↓reduceIte, Nat.reduceEqDiff]; rw [t5]; simp [keptO], by simp only [ups_at, ↓reduceIte, Nat.reduceEqDiff]; exact t6, by simp only [ups_at, ↓reduceIte, Nat.reduceEqDiff]; exact t7, by simp only [ups_at, ↓reduceIte, Nat.reduceEqDiff]; exact t8, rfl, rfl, rfl⟩ ?_
    clear t1 t4 t5 t6 t7 t8 t17 t18 t19 hs
    rintro r t w ⟨i, n, h, q, vo, e, rfl, hi, rfl, hs, rfl, t4, t5, t6, t7, t8, t27, t28, t29⟩
    have hge := hs.ge
    have hkl := keptO_len T (l.take i)
    rw [List.length_take] at hkl
    by_cases hlt : i < l.length
    · obtain ⟨b, o, sp, rw0, cc, rfl, hlk, hbn, hle, hat, -⟩ := hu.at encO_len hlt
      have hlk' : look b h = some (.cells cc rw0) := by rw [hs.old b (by omega)]; exact hlk
      obtain ⟨q2, hs2, hq2⟩ := hs.push (.cells (encO l[i]) true)
      obtain ⟨hpi, hki⟩ := hpg l[i] (List.getElem_mem hlt)
      have hkey := fun a K => key10 l[i] hpi (by omega) a K
      have hsu := keptO_succ T l i hlt
      simp only [encO] at hkey hs2
      simp -dsimp (maxSteps := 4000000) (disch := first | omega | assumption | (simp only [FB, Nat.reduceAdd]; done) | (simp only [LB]; omega)) only [EB, ↓reduceIte, WB, Nat.reduceSub, Nat.reduceAdd, Int.reduceEq, Int.reduceNe, Int.reduceLT, Int.reduceLE, Int.reduceAdd, Int.reduceSub, Int.reduceMul, Int.reduceNeg, Int.reduceToNat, Nat.reduceEqDiff, Nat.reduceLT, Nat.reduceLeDiff, Nat.reduceMul, List.replicate, reduceCtorEq, TB, NB, MB, t4, t5, t6, t7, t8, t27, t28, t29, show (i : Int) < l.length by omega, hlk', hat, encO]
      refine code_draw [(0, 1), (0, 2), (0, 3), (0, 4), (0, 5), (1, 3), (1, 4), (2, 3), (2, 4)] (by decide +kernel) (by decide +kernel) ?_
      have hs3 : MS N a.heap (n + 2) ((n, Blk.cells [.int .u32 l[i].page, .int .i64 l[i].slot, .string (mkStr l[i].key), .string (mkStr l[i].val)] true) :: h) q2 vo (keptO T (l.take i)) := ⟨by omega, hs2.old, hs2.mp, hs2.mo, hs2.al, hs2.ow.keep (by omega) fun _ => rfl, hs2.q3⟩
      simp -dsimp (maxSteps := 4000000) (disch := first | omega | assumption | (simp only [FB, Nat.reduceAdd]; done) | (simp only [LB]; omega)) only [EB, ↓reduceIte, WB, Nat.reduceSub, Nat.reduceAdd, Int.reduceEq, Int.reduceNe, Int.reduceLT, Int.reduceLE, Int.reduceAdd, Int.reduceSub, Int.reduceMul, Int.reduceNeg, Int.reduceToNat, Nat.reduceEqDiff, Nat.reduceLT, Nat.reduceLeDiff, Nat.reduceMul, List.replicate, reduceCtorEq, RB, Nat.reduceEqDiff, TB, NB, MB, t4, t5, t6, t7, t8, hkey, show n < n + 2 by omega]
      refine put_ms (orP l[i]) hs3 (by omega) (n + 2) (.inr ⟨by omega, Nat.le_refl _⟩) _ (fun hk => ?_) fun hk v' q' n' h' L hL hms hn' hf => ?_
      · simp -dsimp (maxSteps := 4000000) (disch := first | omega | assumption | (simp only [FB, Nat.reduceAdd]; done) | (simp only [LB]; omega)) only [EB, ↓reduceIte, WB, Nat.reduceSub, Nat.reduceAdd, Int.reduceEq, Int.reduceNe, Int.reduceLT, Int.reduceLE, Int.reduceAdd, Int.reduceSub, Int.reduceMul, Int.reduceNeg, Int.reduceToNat, Nat.reduceEqDiff, Nat.reduceLT, Nat.reduceLeDiff, Nat.reduceMul, List.replicate, reduceCtorEq, RB, Nat.reduceEqDiff, TB, NB, MB, t29, wrap64]
        refine ⟨l.length - (i + 1), by omega, i + 1, n + 2, _, q2, vo, _, rfl, by omega, rfl, ?_, rfl, ?_⟩
        · rw [hsu, addP, if_pos hk]; exact hs3
        · simp only [ups_at, ↓reduceIte, Nat.reduceEqDiff]; exact ⟨t4, by rw [hsu, addP, if_pos hk]; exact t5, t6, t7, t8, t27, t28, (by first | trivial | rfl | omega)⟩
      · have hni := not_in hL (x := n) (by have := hs.ge; omega) (by have := hs.ge; omega) (by omega)
        have hd2 : ∀ x ∈ soilAll [] (n + 2) L, N ≤ x := fun x hx => by
          have := hL x (soil_sub hx)
          have := hs2.q3
          omega
        have hni2 : (soilAll [] (n + 2) L).contains n = false := by
          cases hc : (soilAll [] (n + 2) L).contains n with
          | false => rfl
          | true =>
            rw [List.contains_iff_mem] at hc
            have := soil_sub hc
            rw [← List.contains_iff_mem, hni] at this; cases this
        have hd : soilAll [] N (soilAll [] (n + 2) L) = [] := soil_L hd2
        simp -dsimp (maxSteps := 4000000) (disch := first | omega | assumption | (simp only [FB, Nat.reduceAdd]; done) | (simp only [LB]; omega)) only [EB, ↓reduceIte, WB, Nat.reduceSub, Nat.reduceAdd, Int.reduceEq, Int.reduceNe, Int.reduceLT, Int.reduceLE, Int.reduceAdd, Int.reduceSub, Int.reduceMul, Int.reduceNeg, Int.reduceToNat, Nat.reduceEqDiff, Nat.reduceLT, Nat.reduceLeDiff, Nat.reduceMul, List.replicate, reduceCtorEq, RB, Nat.reduceEqDiff, TB, NB, MB, t5, t29, wrap64, hni2, hd, Bool.not_false]
        refine ⟨l.length - (i + 1), by omega, i + 1, n', h', q', v', _, rfl, by omega, rfl, ?_, rfl, ?_⟩
        · rw [hsu, addP, if_neg (by rw [hk]; simp)]; exact hms
        · simp only [ups_at, ↓reduceIte, Nat.reduceEqDiff]
          refine ⟨t4, ?_, t6, t7, t8, t27, t28, (by first | trivial | rfl | omega)⟩
          rw [hsu, addP, if_neg (by rw [hk]; simp), List.length_append, List.length_cons, List.length_nil]
          congr 1; omega
    · obtain rfl : i = l.length := by omega
      rw [List.take_length] at hs t5 hkl
      obtain ⟨A, hA2⟩ : ∃ A, A = keptO T l := ⟨_, rfl⟩
      have hnd : (A.map (·.key)).Nodup := by rw [hA2, hT]; exact keptO_nodup l (keptT_nodup there)
      have hkb : ∀ p ∈ A, p.key.length ≤ 140737488355328 := fun p hp => by
        rw [hA2] at hp
        rcases kept_mem orP l T p hp with hp | ⟨o, ho, rfl⟩
        · rw [hT] at hp
          rcases kept_mem (fun p => p) there [] p hp with hp | ⟨o, ho, rfl⟩
          · cases hp
          · have := htk _ ho; omega
        · have := (hpg o ho).2
          show (kbytes o).length ≤ _
          unfold kbytes
          simp only [List.length_append, List.length_cons, List.length_nil, List.length_take]
          omega
      rw [← hA2] at hs t5 hkl hK
      simp -dsimp (maxSteps := 4000000) (disch := first | omega | assumption | (simp only [FB, Nat.reduceAdd]; done) | (simp only [LB]; omega)) only [EB, ↓reduceIte, WB, Nat.reduceSub, Nat.reduceAdd, Int.reduceEq, Int.reduceNe, Int.reduceLT, Int.reduceLE, Int.reduceAdd, Int.reduceSub, Int.reduceMul, Int.reduceNeg, Int.reduceToNat, Nat.reduceEqDiff, Nat.reduceLT, Nat.reduceLeDiff, Nat.reduceMul, List.replicate, reduceCtorEq, TB, NB, MB, t4, t5, t6, t7, t8, t27, t28, t29, show ¬ (l.length : Int) < l.length by omega, hs.mp, keys27]
      obtain ⟨q2, hs2, hq2⟩ := hs.push (.cells [.map (some N)] true)
      refine sorted26 n N A (by omega) hnd hkb ⟨n + 1, _, N, []⟩ look_self hs2.mo _ fun vk n1 h1 x1 x2 x3 x4 => ?_
      simp only at x1 x2 x4
      obtain ⟨pk, ck, rfl⟩ := x3.len
      have hml : (srtK (A.map (·.key))).length = A.length := by rw [(srtK_perm _).length_eq, List.length_map]
      have hge2 := hs2.ge
      have hq3 := hs2.q3
      have b1 : look (N + 1) h1 = some (.cells [.map (some N)] true) := by rw [x4 _ (by omega)]; exact hs2.mp
      have b2 : MapIs ekS evN (look N h1) (idxM A 0) := by rw [x4 _ (by omega)]; exact hs2.mo
      have b3 : look (N + 2) h1 = some (.cells [vo] true) := by rw [x4 _ (by omega)]; exact hs2.al
      have b4 : RV encPr 2 h1 n1 vo A := hs2.ow.rv.keep x1 fun j hj => x4 j hj
      obtain ⟨pa, ca, rfl⟩ := b4.len
      have hout : outM A = (srtK (A.map (·.key))).map (getP A) := rfl
      obtain ⟨ks, hks⟩ : ∃ ks, ks = srtK (A.map (·.key)) := ⟨_, rfl⟩
      have hkm : ∀ s ∈ ks, hasK A s = true := fun s hs => by rw [hks] at hs; exact hasK_iff.2 ((srtK_perm _).mem_iff.1 hs)
      rw [← hks] at x3 hml hout
      rw [hout] at hK
      simp -dsimp (maxSteps := 4000000) (disch := first | omega | assumption | (simp only [FB, Nat.reduceAdd]; done) | (simp only [LB]; omega)) only [EB, ↓reduceIte, WB, Nat.reduceSub, Nat.reduceAdd, Int.reduceEq, Int.reduceNe, Int.reduceLT, Int.reduceLE, Int.reduceAdd, Int.reduceSub, Int.reduceMul, Int.reduceNeg, Int.reduceToNat, Nat.reduceEqDiff, Nat.reduceLT, Nat.reduceLeDiff, Nat.reduceMul, List.replicate, reduceCtorEq, TB, NB, MB, ← hks]
      refine loop_inv (fun r t w => ∃ i n2 h2 q2 v2, ∃ e : Nat → Value, r = ks.length - i ∧ i ≤ ks.length ∧ w = ⟨n2, h2, N, []⟩ ∧ n1 ≤ n2 ∧ (∀ j, j < n1 → look j h2 = look j h1) ∧ t = TT 64 e ∧ OwnS encPr 2 h2 n2 q2 v2 ((ks.take i).map (getP A)) ∧ n1 ≤ q2 ∧ e 4 = v2 ∧ e 5 = .int .i64 ((A.length : Int) - T.length) ∧ e 6 = .pointer (some ⟨N + 1, 0, none⟩) ∧ e 7 = .pointer (some ⟨N + 2, 0, none⟩) ∧ e 45 = .slice pk ks.length ck ∧ e 46 = .int .i64 ks.length ∧ e 47 = .int .i64 i)
        ⟨0, n1, h1, n1, _, _, rfl, by omega, rfl, Nat.le_refl _, fun _ _ => rfl, rfl, .inl ⟨rfl, rfl⟩, Nat.le_refl _, by simp only [ups_at, ↓reduceIte, Nat.reduceEqDiff]; exact t4, by simp only [ups_at, ↓reduceIte, Nat.reduceEqDiff]; exact t5, by simp only [ups_at, ↓reduceIte, Nat.reduceEqDiff]; exact t6, by simp only [ups_at, ↓reduceIte, Nat.reduceEqDiff]; exact t7, rfl, rfl, rfl⟩ ?_
      clear t4 t5 t6 t7 t8 t27 t28 t29
      rintro r t w ⟨i, n2, h2, q2, v2, e, rfl, hi2, rfl, hn2, hh2, rfl, ho, hq2, t4, t5, t6, t7, t45, t46, t47⟩
      by_cases hlt : i < ks.length
      · obtain ⟨b, o, sp, rw0, cc, rfl, hlk, hbn, hle, hat, hkk⟩ := x3.at encK_len hlt
        have hx : cc[o + i]? = some (.string (mkStr ks[i])) := by have := hkk 0 (by omega); simpa [encK] using this
        have hlk' : look b h2 = some (.cells cc rw0) := by rw [hh2 b hbn]; exact hlk
        obtain ⟨j, hj, g1, g2, g3⟩ := idxM_some ks[i] A 0 (hkm _ (List.getElem_mem hlt))
        rw [Nat.zero_add] at g1
        have c1 : look (N + 1) h2 = some (.cells [.map (some N)] true) := by rw [hh2 _ (by omega)]; exact b1
        have c3 : look (N + 2) h2 = some (.cells [.slice pa A.length ca] true) := by rw [hh2 _ (by omega)]; exact b3
        have c2 := look51 (a := ⟨n2, h2, N, []⟩) (r := N) (all := A) (by show MapIs ekS evN (look N h2) _; rw [hh2 _ (by omega)]; exact b2) ks[i]
        rw [g1] at c2
        simp only [Option.elim, evN] at c2
        have c4 : RV encPr 2 h2 n2 (.slice pa A.length ca) A := b4.keep hn2 fun j hj => hh2 j hj
        obtain ⟨b', o', sp', rw0', cc', rfl, hlk2, hbn2, hle2, hat2, -⟩ := c4.at encPr_len hj
        simp -dsimp (maxSteps := 4000000) (disch := first | omega | assumption | (simp only [FB, Nat.reduceAdd]; done) | (simp only [LB]; omega)) only [EB, ↓reduceIte, WB, Nat.reduceSub, Nat.reduceAdd, Int.reduceEq, Int.reduceNe, Int.reduceLT, Int.reduceLE, Int.reduceAdd, Int.reduceSub, Int.reduceMul, Int.reduceNeg, Int.reduceToNat, Nat.reduceEqDiff, Nat.reduceLT, Nat.reduceLeDiff, Nat.reduceMul, List.replicate, reduceCtorEq, TB, NB, MB, t4, t5, t6, t7, t45, t46, t47, show (i : Int) < ks.length by omega, hlk', hx, c1, c2, c3, wrap64, show ((j + 1 : Nat) : Int) - 1 = (j : Int) by omega, hlk2, hat2, encPr]
        have ho' : OwnS encPr 2 ((n2, Blk.cells [.string (mkStr A[j].key), .string (mkStr A[j].val)] true) :: h2) (n2 + 1) q2 v2 ((ks.take i).map (getP A)) := ho.keep (by omega) fun hq => look_miss (by omega)
        obtain ⟨v3, q3, n3, h3, e3, o3, f1, f2, f3, f4, f5⟩ := append_mine (E := Try.prog) (t0 := 33) (t1 := 33) (bs := N) (d := []) app33 encPr_len encPr_one ho' (by omega) (by omega) (RV.one (n := n2 + 1) (x := A[j]) encPr_len look_self (by omega)) (by simp only [List.length_map, List.length_take, List.length_cons, List.length_nil]; omega)
        rw [e3]
        simp -dsimp (maxSteps := 4000000) (disch := first | omega | assumption | (simp only [FB, Nat.reduceAdd]; done) | (simp only [LB]; omega)) only [EB, ↓reduceIte, WB, Nat.reduceSub, Nat.reduceAdd, Int.reduceEq, Int.reduceNe, Int.reduceLT, Int.reduceLE, Int.reduceAdd, Int.reduceSub, Int.reduceMul, Int.reduceNeg, Int.reduceToNat, Nat.reduceEqDiff, Nat.reduceLT, Nat.reduceLeDiff, Nat.reduceMul, List.replicate, reduceCtorEq, TB, NB, MB, t47, wrap64]
        refine ⟨trivial, ks.length - (i + 1), by omega, i + 1, n3, h3, q3, v3, _, rfl, by omega, rfl, by omega, fun j hj => by rw [f5 j (by omega) (by omega), look_miss (by omega), hh2 j hj], rfl, ?_, by omega, ?_⟩
        · have hgp : getP A ks[i] = A[j] := by unfold getP; rw [g3]; rfl
          rw [List.take_add_one, List.getElem?_eq_getElem hlt]
          simp only [Option.toList_some, List.map_append, List.map_cons, List.map_nil, hgp]
          exact o3
        · simp only [ups_at, ↓reduceIte, Nat.reduceEqDiff]
          exact ⟨trivial, t5, t6, t7, t45, t46, (by first | trivial | rfl | omega)⟩
      · obtain rfl : i = ks.length := by omega
        rw [List.take_length] at ho
        simp -dsimp (maxSteps := 4000000) (disch := first | omega | assumption | (simp only [FB, Nat.reduceAdd]; done) | (simp only [LB]; omega)) only [EB, ↓reduceIte, WB, Nat.reduceSub, Nat.reduceAdd, Int.reduceEq, Int.reduceNe, Int.reduceLT, Int.reduceLE, Int.reduceAdd, Int.reduceSub, Int.reduceMul, Int.reduceNeg, Int.reduceToNat, Nat.reduceEqDiff, Nat.reduceLT, Nat.reduceLeDiff, Nat.reduceMul, List.replicate, reduceCtorEq, TB, NB, MB, t4, t5, t6, t7, t45, t46, t47, show ¬ (ks.length : Int) < ks.length by omega]
        exact leave_own2 (a := a) encPr_flat rfl ho (by omega) fun v' n' h' y1 y2 y3 y4 _ => hK v' n' h' y1 y2 y3 y4
end Go.Proofs.YtdgpniekpmoadaaAM
