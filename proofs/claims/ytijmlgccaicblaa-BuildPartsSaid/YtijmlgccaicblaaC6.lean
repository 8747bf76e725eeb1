/- Chapter 13: the reference's Branches. -/
import Derived.Test.YtijmlgccaicblaaC5
namespace Go.Proofs.YtijmlgccaicblaaAM
open Go Go.RowKit
set_option linter.unusedVariables false
set_option linter.unusedSimpArgs false
set_option maxRecDepth 10000
set_option maxHeartbeats 4000000

theorem refbranches25 (size : Int) (v : Value) (l : List Fk) (hl : l.length ≤ 90000) (a : AW) (m : Nat) (hm : m ≤ a.next) (hv : RV encF 2 a.heap m v l) (K : Value → AW → Prop)
    (hK : ∀ v' n' h', a.next ≤ n' → RVV encF 2 h' n' v' (branchesF size l).1 → (∀ j, j < a.next → look j h' = look j a.heap) → K (.tuple #[v', .int .i64 (branchesF size l).2]) ⟨n', h', a.base, a.dirty⟩) :
    WCall Try.prog GV 25 [.int .i64 size, v] a K := by
  rw [call_env Try.func25 rfl Try.ntmps25 rfl rfl (by simp)]
  obtain ⟨pp, c, rfl⟩ := hv.len
  have hmy := fun K => may47 (.slice pp l.length c) l (by omega) ⟨a.next, a.heap, a.next, []⟩ m hm hv K
  by_cases hg : goodSz size
  · by_cases h1 : mayF l = true
    · have hmp := mayF_of h1
      have hok := mayPF_ok hmp
      have hpl : branchesF size l = partsF (room size) l := by unfold branchesF; rw [if_pos ⟨h1, hg⟩]
      rw [hpl] at hK
      simp -dsimp (maxSteps := 4000000) (disch := first | omega | assumption | (simp only [FB, Nat.reduceAdd]; done) | (simp only [LB]; omega)) only [EB, ↓reduceIte, WB, Nat.reduceSub, Nat.reduceAdd, Int.reduceEq, Int.reduceNe, Int.reduceLT, Int.reduceLE, Int.reduceAdd, Int.reduceSub, Int.reduceMul, Int.reduceNeg, Int.reduceToNat, Nat.reduceEqDiff, Nat.reduceLT, Nat.reduceLeDiff, Nat.reduceMul, List.replicate, reduceCtorEq, TB, NB, good42, hg, hmy, h1]
      refine loop_inv (fun r t w => ∃ i n h q v, ∃ e : Nat → Value, r = l.length - i ∧ i ≤ l.length ∧ w = ⟨n, h, a.next, []⟩ ∧ a.next ≤ n ∧ (∀ j, j < a.next → look j h = look j a.heap) ∧ t = TT 64 e ∧ OwnS encN 1 h n q v ((l.take i).map fun x => (fsz x : Int)) ∧ a.next ≤ q ∧
        e 0 = .int .i64 size ∧ e 1 = .slice pp l.length c ∧ e 6 = v ∧ e 7 = .int .i64 i)
        ⟨0, a.next, a.heap, a.next, _, _, rfl, by omega, rfl, Nat.le_refl _, fun _ _ => rfl, rfl, OwnS.nil, Nat.le_refl _, rfl, rfl, rfl, rfl⟩ ?_
      rintro r t w ⟨i, n, h, q, vo, e, rfl, hi, rfl, hn, hh, rfl, ho, hq, t0, t1, t6, t7⟩
      by_cases hlt : i < l.length
      · obtain ⟨b, o, sp, rw0, cc, rfl, hlk, hbn, hle, hat, -⟩ := hv.at encF_len hlt
        have hlk' : look b h = some (.cells cc rw0) := by rw [hh b (by omega)]; exact hlk
        have hsx := fkOk_sz (hok _ (List.getElem_mem hlt))
        have h1' := fun a K => one48 l[i] (by omega) a K
        simp -dsimp (maxSteps := 4000000) (disch := first | omega | assumption | (simp only [FB, Nat.reduceAdd]; done) | (simp only [LB]; omega)) only [EB, ↓reduceIte, WB, Nat.reduceSub, Nat.reduceAdd, Int.reduceEq, Int.reduceNe, Int.reduceLT, Int.reduceLE, Int.reduceAdd, Int.reduceSub, Int.reduceMul, Int.reduceNeg, Int.reduceToNat, Nat.reduceEqDiff, Nat.reduceLT, Nat.reduceLeDiff, Nat.reduceMul, List.replicate, reduceCtorEq, TB, NB, t0, t1, t6, t7, show (i : Int) < l.length by omega, hlk', hat, h1', wrap64]
        have ho' : OwnS encN 1 ((n, Blk.cells [Value.int IntKind.i64 (fsz l[i])] true) :: h) (n + 1) q vo ((l.take i).map fun x => (fsz x : Int)) := ho.keep (by omega) fun hq2 => look_miss (by omega)
        obtain ⟨v2, q2, n2, h2', e2, o2, f1, f2, f3, f4, f5⟩ := append_mine (E := Try.prog) (t0 := 25) (t1 := 25) (bs := a.next) (d := []) app25 encN_len encN_one ho' (by omega) (by omega) (RV.one (n := n + 1) (x := (fsz l[i] : Int)) encN_len look_self (by omega)) (by simp only [List.length_cons, List.length_nil, List.length_map, List.length_take]; omega)
        rw [e2]
        simp -dsimp (maxSteps := 4000000) (disch := first | omega | assumption | (simp only [FB, Nat.reduceAdd]; done) | (simp only [LB]; omega)) only [EB, ↓reduceIte, WB, Nat.reduceSub, Nat.reduceAdd, Int.reduceEq, Int.reduceNe, Int.reduceLT, Int.reduceLE, Int.reduceAdd, Int.reduceSub, Int.reduceMul, Int.reduceNeg, Int.reduceToNat, Nat.reduceEqDiff, Nat.reduceLT, Nat.reduceLeDiff, Nat.reduceMul, List.replicate, reduceCtorEq, TB, NB, t7, wrap64]
        refine ⟨trivial, l.length - (i + 1), by omega, i + 1, n2, h2', q2, v2, _, rfl, by omega, rfl, by omega, fun j hj => by rw [f5 j (by omega) (by omega), look_miss (by omega), hh j hj], rfl, ?_, f3, ?_⟩
        · rw [List.take_add_one, List.getElem?_eq_getElem hlt]
          simp only [Option.toList_some, List.map_append, List.map_cons, List.map_nil]
          exact o2
        · simp only [ups_at, ↓reduceIte, Nat.reduceEqDiff]
          exact ⟨t0, t1, trivial, (by first | trivial | rfl | omega)⟩
      · obtain rfl : i = l.length := by omega
        rw [List.take_length] at ho
        have hrl := room_le size
        simp -dsimp (maxSteps := 4000000) (disch := first | omega | assumption | (simp only [FB, Nat.reduceAdd]; done) | (simp only [LB]; omega)) only [EB, ↓reduceIte, WB, Nat.reduceSub, Nat.reduceAdd, Int.reduceEq, Int.reduceNe, Int.reduceLT, Int.reduceLE, Int.reduceAdd, Int.reduceSub, Int.reduceMul, Int.reduceNeg, Int.reduceToNat, Nat.reduceEqDiff, Nat.reduceLT, Nat.reduceLeDiff, Nat.reduceMul, List.replicate, reduceCtorEq, TB, NB, t0, t1, t6, t7, show ¬ (l.length : Int) < l.length by omega, room16]
        refine refcut27 vo (l.map fun x => (fsz x : Int)) (room size) (by rw [List.length_map]; omega) (by omega) ⟨n, h, a.next, []⟩ n (Nat.le_refl _) ho.rv _ fun ve n1 h1 x1 x2 x3 x4 => ?_
        simp only at x1 x2 x3 x4
        obtain ⟨E, hE⟩ : ∃ E, E = cutL (room size) (l.map fun x => (fsz x : Int)) := ⟨_, rfl⟩
        have hup := @upTo_cut (room size) (l.map fun x => (fsz x : Int))
        have hEl := cutL_len (room size) (l.map fun x => (fsz x : Int))
        rw [List.length_map] at hup hEl
        have hpd : partsF (room size) l = if E = [] then ([], 3) else (cutAt l 0 E, 0) := by rw [hE]; rfl
        rw [← hE] at x3 hup hEl
        obtain ⟨pe, ce, rfl⟩ := x3.len
        by_cases hE0 : E = []
        · rw [if_pos hE0] at hpd
          rw [hpd] at hK
          simp -dsimp (maxSteps := 4000000) (disch := first | omega | assumption | (simp only [FB, Nat.reduceAdd]; done) | (simp only [LB]; omega)) only [EB, ↓reduceIte, WB, Nat.reduceSub, Nat.reduceAdd, Int.reduceEq, Int.reduceNe, Int.reduceLT, Int.reduceLE, Int.reduceAdd, Int.reduceSub, Int.reduceMul, Int.reduceNeg, Int.reduceToNat, Nat.reduceEqDiff, Nat.reduceLT, Nat.reduceLeDiff, Nat.reduceMul, List.replicate, reduceCtorEq, TB, NB, t0, t1, show (E.length : Int) = 0 by rw [hE0]; rfl]
          exact hK _ a.next a.heap (Nat.le_refl _) RVV.nil fun _ _ => rfl
        · rw [if_neg hE0] at hpd
          rw [hpd] at hK
          have hE1 : 0 < E.length := List.length_pos_iff.2 hE0
          simp -dsimp (maxSteps := 4000000) (disch := first | omega | assumption | (simp only [FB, Nat.reduceAdd]; done) | (simp only [LB]; omega)) only [EB, ↓reduceIte, WB, Nat.reduceSub, Nat.reduceAdd, Int.reduceEq, Int.reduceNe, Int.reduceLT, Int.reduceLE, Int.reduceAdd, Int.reduceSub, Int.reduceMul, Int.reduceNeg, Int.reduceToNat, Nat.reduceEqDiff, Nat.reduceLT, Nat.reduceLeDiff, Nat.reduceMul, List.replicate, reduceCtorEq, TB, NB, t0, t1, show ¬ (E.length : Int) = 0 by omega]
          refine loop_inv (fun r t w => ∃ i n h q v fr, ∃ qs : List (Sl × List Fk), ∃ e : Nat → Value, r = E.length - i ∧ i ≤ E.length ∧ w = ⟨n, h, a.next, []⟩ ∧ n1 ≤ n ∧ (∀ j, j < n1 → look j h = look j h1) ∧ t = TT 64 e ∧ OwnS encQ 1 h n q v qs ∧ n1 ≤ q ∧ (∀ x ∈ qs, RV encF 2 h n (slV x.1) x.2 ∧ blkOf (slV x.1) ≠ some q) ∧ qs.length = i ∧ cutAt l 0 E = qs.map (·.2) ++ cutAt l fr (E.drop i) ∧ upTo l.length fr (E.drop i) ∧
            e 1 = .slice pp l.length c ∧ e 8 = .slice pe E.length ce ∧ e 9 = v ∧ e 10 = .int .i64 (fr : Int) ∧ e 11 = .int .i64 i)
            ⟨0, n1, h1, n1, _, 0, [], _, rfl, by omega, rfl, Nat.le_refl _, fun _ _ => rfl, rfl, OwnS.nil, Nat.le_refl _, fun x hx => (by cases hx), rfl, rfl, hup hE0, by simp only [ups_at, ↓reduceIte, Nat.reduceEqDiff]; exact t1, rfl, rfl, rfl, rfl⟩ ?_
          clear t0 t6 t7
          rintro r t w ⟨i, n2, h2, q2, v2, fr, qs, e, rfl, hi, rfl, hn2, hh2, rfl, ho2, hq2, hqs, hql, hcut, hupi, t1, t8, t9, t10, t11⟩
          by_cases hlt : i < E.length
          · have hvE : RV encN 1 h2 n2 (.slice pe E.length ce) E := x3.rv.keep hn2 fun j hj => hh2 j hj
            obtain ⟨b, o, sp, rw0, cc, rfl, hlk, hbn, hle, hat, hkk⟩ := hvE.at encN_len hlt
            have hx : cc[o + i]? = some (.int .i64 E[i]) := by have := hkk 0 (by omega); simpa [encN] using this
            have hbn1 : b < n1 := by
              obtain ⟨b', o', sp', rw', cc', e', -, hbn', -⟩ := x3.rv.at encN_len hlt
              cases e'; exact hbn'
            have hdr : E.drop i = E[i] :: E.drop (i + 1) := List.drop_eq_getElem_cons hlt
            rw [hdr] at hupi hcut
            obtain ⟨u1, u2, u3⟩ := hupi
            have hvl : RV encF 2 ((n2, Blk.cells [] true) :: h2) (n2 + 1) (.slice pp l.length c) l := hv.keep (by omega) fun j hj => by rw [look_miss (by omega), hh2 j (by omega), x4 j (by omega), hh j (by omega)]
            obtain ⟨w1, s1, r1, -⟩ := hvl.both (E := Try.prog) encF_len und48 size50 (k := .i64) (k' := .i64) (i := (fr : Int)) (j := E[i]) (by omega) (by omega) (by omega)
            rw [Int.toNat_natCast] at r1
            obtain ⟨v3, q3, n3, h3, e3, o3, f1, f2, f3, f4, f5⟩ := append_mine (E := Try.prog) (t0 := 48) (t1 := 48) (bs := a.next) (d := []) app48 encF_len encF_one (OwnS.made (n := n2 + 1) (h := (n2, Blk.cells [] true) :: h2) look_self (Nat.lt_succ_self _)) (by omega) (by omega) r1 (by simp only [List.length_nil, List.length_drop, List.length_take]; omega)
            rw [List.nil_append] at o3
            have hq3 : n2 ≤ q3 := by omega
            obtain ⟨p3, c3, hv3⟩ := o3.len
            obtain ⟨P, hP⟩ : ∃ P : List Fk, P = (l.take E[i].toNat).drop fr := ⟨_, rfl⟩
            rw [← hP] at o3 hv3
            subst hv3
            simp -dsimp (maxSteps := 4000000) (disch := first | omega | assumption | (simp only [FB, Nat.reduceAdd]; done) | (simp only [LB]; omega)) only [EB, ↓reduceIte, WB, Nat.reduceSub, Nat.reduceAdd, Int.reduceEq, Int.reduceNe, Int.reduceLT, Int.reduceLE, Int.reduceAdd, Int.reduceSub, Int.reduceMul, Int.reduceNeg, Int.reduceToNat, Nat.reduceEqDiff, Nat.reduceLT, Nat.reduceLeDiff, Nat.reduceMul, List.replicate, reduceCtorEq, TB, NB, t1, t8, t9, t10, t11, show (i : Int) < E.length by omega, hlk, show b ≠ n2 by omega, hx, s1, e3]
            obtain ⟨q5, ho5, hq5, hq6, hqs5⟩ : ∃ q5, OwnS encQ 1 h2 n2 q5 v2 qs ∧ n1 ≤ q5 ∧ (q5 < n2 ∨ n3 + 1 ≤ q5) ∧ (∀ x ∈ qs, RV encF 2 h2 n2 (slV x.1) x.2 ∧ blkOf (slV x.1) ≠ some q5) := by
              rcases ho2 with ⟨e5, e6⟩ | hs5
              · exact ⟨n3 + 1, .inl ⟨e5, e6⟩, by omega, .inr (Nat.le_refl _), fun x hx => by rw [e6] at hx; cases hx⟩
              · have : q2 < n2 := by obtain ⟨_, _, _, _, _, _, _, _, _, h7, _⟩ := hs5; exact h7
                exact ⟨q2, .inr hs5, hq2, .inl this, hqs⟩
            have ho3 : OwnS encQ 1 ((n3, Blk.cells [Value.slice p3 P.length c3] true) :: h3) (n3 + 1) q5 v2 qs := ho5.keep (by omega) fun hq2' => by rw [look_miss (by omega), f5 q5 (by omega) (by omega), look_miss (by omega)]
            obtain ⟨v4, q4, n4, h4, e4, o4, g1, g2, g3, g4, g5⟩ := append_mine (E := Try.prog) (t0 := 51) (t1 := 51) (bs := a.next) (d := []) app51 encQ_len encQ_one ho3 (by omega) (by omega) (RV.one (n := n3 + 1) (x := ((p3, P.length, c3), P)) encQ_len look_self (by omega)) (by simp only [List.length_cons, List.length_nil]; omega)
            rw [e4]
            have hlk4 : look b h4 = some (.cells cc rw0) := by rw [g5 b (by omega) (by omega), look_miss (by omega), f5 b (by omega) (by omega), look_miss (by omega)]; exact hlk
            simp -dsimp (maxSteps := 4000000) (disch := first | omega | assumption | (simp only [FB, Nat.reduceAdd]; done) | (simp only [LB]; omega)) only [EB, ↓reduceIte, WB, Nat.reduceSub, Nat.reduceAdd, Int.reduceEq, Int.reduceNe, Int.reduceLT, Int.reduceLE, Int.reduceAdd, Int.reduceSub, Int.reduceMul, Int.reduceNeg, Int.reduceToNat, Nat.reduceEqDiff, Nat.reduceLT, Nat.reduceLeDiff, Nat.reduceMul, List.replicate, reduceCtorEq, TB, NB, t8, t11, hlk4, hx, wrap64]
            have hnq : ∀ x ∈ qs, RV encF 2 h4 n4 (slV x.1) x.2 ∧ blkOf (slV x.1) ≠ some q4 := fun x hx => by
              obtain ⟨y1, y2⟩ := hqs5 x hx
              refine ⟨y1.keepB (by omega) fun j hj => ?_, fun hj => ?_⟩
              · have hjn := y1.blk_lt hj
                have hjq : j ≠ q5 := fun h => y2 (h ▸ hj)
                rw [g5 j (by omega) hjq, look_miss (by omega), f5 j (by omega) (by omega), look_miss (by omega)]
              · have hjn := y1.blk_lt hj
                rcases g4 with rfl | g4
                · exact y2 hj
                · omega
            refine ⟨trivial, E.length - (i + 1), by omega, i + 1, n4, h4, q4, v4, E[i].toNat, qs ++ [((p3, P.length, c3), P)], _, rfl, by omega, rfl, by omega, fun j hj => by rw [g5 j (by omega) (by omega), look_miss (by omega), f5 j (by omega) (by omega), look_miss (by omega), hh2 j hj], rfl, o4, by omega, fun x hx => ?_, by simp [hql], ?_, u3, ?_⟩
            · rcases List.mem_append.1 hx with hx | hx
              · exact hnq x hx
              · have hx' : x = ((p3, P.length, c3), P) := by simpa using hx
                subst hx'
                have o3r : RV encF 2 h3 n3 (.slice p3 P.length c3) P := o3.rv
                have hbo : ∀ j, blkOf (.slice p3 P.length c3) = some j → j = q3 := fun j hj => by
                  rcases o3 with ⟨e1, -⟩ | ⟨sp', cap', c', e1, -⟩
                  · rw [e1] at hj; cases hj
                  · rw [e1] at hj; cases hj; rfl
                refine ⟨o3r.keepB (v := .slice p3 P.length c3) (by omega) fun j hj => ?_, fun hj => ?_⟩
                · have hjn := o3r.blk_lt hj
                  have := hbo j hj
                  by_cases hjq : j = q5
                  · omega
                  · rw [g5 j (by omega) hjq, look_miss (by omega)]
                · have h5 := hbo q4 hj
                  have h6 := o3r.blk_lt hj
                  omega
            · rw [hcut, cutAt, List.map_append, List.append_assoc, hP]; rfl
            · simp only [ups_at, ↓reduceIte, Nat.reduceEqDiff]
              exact ⟨t1, t8, trivial, by rw [Int.toNat_of_nonneg (by omega)], (by first | trivial | rfl | omega)⟩
          · obtain rfl : i = E.length := by omega
            rw [List.drop_length] at hcut
            simp only [cutAt, List.append_nil] at hcut
            simp -dsimp (maxSteps := 4000000) (disch := first | omega | assumption | (simp only [FB, Nat.reduceAdd]; done) | (simp only [LB]; omega)) only [EB, ↓reduceIte, WB, Nat.reduceSub, Nat.reduceAdd, Int.reduceEq, Int.reduceNe, Int.reduceLT, Int.reduceLE, Int.reduceAdd, Int.reduceSub, Int.reduceMul, Int.reduceNeg, Int.reduceToNat, Nat.reduceEqDiff, Nat.reduceLT, Nat.reduceLeDiff, Nat.reduceMul, List.replicate, reduceCtorEq, TB, NB, t1, t8, t9, t10, t11, show ¬ (E.length : Int) < E.length by omega]
            rw [hcut] at hK
            exact leave_vv2 (a := a) rfl ho2 (fun x hx => (hqs x hx).1) (by omega) (fun j hj => by rw [hh2 j (by omega), x4 j (by omega), hh j (by omega)]) hK
    · have h1' : mayF l = false := by simpa using h1
      have hpl : branchesF size l = ([], 2) := by unfold branchesF; rw [if_neg fun h => h1 h.1]
      rw [hpl] at hK
      simp -dsimp (maxSteps := 4000000) (disch := first | omega | assumption | (simp only [FB, Nat.reduceAdd]; done) | (simp only [LB]; omega)) only [EB, ↓reduceIte, WB, Nat.reduceSub, Nat.reduceAdd, Int.reduceEq, Int.reduceNe, Int.reduceLT, Int.reduceLE, Int.reduceAdd, Int.reduceSub, Int.reduceMul, Int.reduceNeg, Int.reduceToNat, Nat.reduceEqDiff, Nat.reduceLT, Nat.reduceLeDiff, Nat.reduceMul, List.replicate, reduceCtorEq, TB, NB, good42, hg, hmy, h1']
      exact hK _ a.next a.heap (Nat.le_refl _) RVV.nil fun _ _ => rfl
  · have hpl : branchesF size l = ([], 2) := by unfold branchesF; rw [if_neg fun h => hg h.2]
    rw [hpl] at hK
    simp -dsimp (maxSteps := 4000000) (disch := first | omega | assumption | (simp only [FB, Nat.reduceAdd]; done) | (simp only [LB]; omega)) only [EB, ↓reduceIte, WB, Nat.reduceSub, Nat.reduceAdd, Int.reduceEq, Int.reduceNe, Int.reduceLT, Int.reduceLE, Int.reduceAdd, Int.reduceSub, Int.reduceMul, Int.reduceNeg, Int.reduceToNat, Nat.reduceEqDiff, Nat.reduceLT, Nat.reduceLeDiff, Nat.reduceMul, List.replicate, reduceCtorEq, TB, NB, good42, hg]
    exact hK _ a.next a.heap (Nat.le_refl _) RVV.nil fun _ _ => rfl
end Go.Proofs.YtijmlgccaicblaaAM
