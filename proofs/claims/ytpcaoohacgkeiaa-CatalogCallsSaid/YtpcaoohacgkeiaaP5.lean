/- Chapter 6: a catalog's page. -/
import Derived.Test.YtpcaoohacgkeiaaP4
namespace Go.Proofs.YtpcaoohacgkeiaaAM
open Go Go.RowKit
set_option linter.unusedVariables false
set_option linter.unusedSimpArgs false
set_option maxRecDepth 10000
set_option maxHeartbeats 4000000

/-- A page. -/
structure Pg where
  kind : Int
  count : Int
  page : Int
  link : Int
  tx : Int
  body : List UInt8
def encP (p : Pg) : List Value := [.int .i64 p.kind, .int .i64 p.count, .int .u32 p.page, .int .u32 p.link, .int .u64 p.tx, .string (mkStr p.body)]
def codeB (b : Bkt) : List UInt8 := le b.name.length 1 ++ b.name ++ le b.root.toNat 4 ++ le b.keys.toNat 4
def codeL (l : List Bkt) : List UInt8 := l.flatMap codeB
theorem codeB_len (b : Bkt) : (codeB b).length = 9 + b.name.length := by simp only [codeB, List.length_append, le_len]; omega
theorem codeL_len (l : List Bkt) : (codeL l).length = sizeB l := by
  induction l with
  | nil => rfl
  | cons b l ih =>
    have e1 : codeL (b :: l) = codeB b ++ codeL l := rfl
    rw [e1, List.length_append, ih, codeB_len]
    simp only [sizeB, List.map_cons, List.sum_cons]
theorem codeL_take (l : List Bkt) (i : Nat) (h : i < l.length) : codeL (l.take (i + 1)) = codeL (l.take i) ++ codeB l[i] := by
  unfold codeL
  rw [List.take_add_one, List.getElem?_eq_getElem h]
  simp only [Option.toList_some, List.flatMap_append, List.flatMap_cons, List.flatMap_nil, List.append_nil]
theorem sizeB_eq (l : List Bkt) (i : Nat) (h : i < l.length) : sizeB l = sizeB (l.eraseIdx i) + (9 + l[i].name.length) := by
  induction l generalizing i with
  | nil => simp at h
  | cons b l ih =>
    cases i with
    | zero => simp only [List.eraseIdx_cons_zero, List.getElem_cons_zero, sizeB, List.map_cons, List.sum_cons]; omega
    | succ i =>
      have := ih i (by simpa using h)
      simp only [List.eraseIdx_cons_succ, List.getElem_cons_succ, sizeB, List.map_cons, List.sum_cons] at this ⊢
      omega
theorem sizeB_del (l : List Bkt) : sizeB l ≤ sizeB (delB l lostN) + 19 := by
  unfold delB
  by_cases h : fidx (nameIs lostN) l < l.length
  · have := sizeB_eq l _ h
    have hn := fidx_at h
    simp only [nameIs, decide_eq_true_eq] at hn
    rw [hn] at this
    have e : lostN.length = 10 := rfl
    omega
  · rw [List.eraseIdx_of_length_le (by omega)]; omega
theorem may_fit {size : Int} {l : List Bkt} (h : mayP size l) : (sizeB l : Int) ≤ size - 24 ∧ 128 ≤ size ∧ size ≤ 4096 := by
  obtain ⟨h1, h2, h3⟩ := h
  have := sizeB_del l
  simp only [goodSz] at h2
  omega
def noPage : Pg := ⟨0, 0, 0, 0, 0, []⟩
/-- What a catalog's page is. -/
noncomputable def pageB (size n tx : Int) (l : List Bkt) : Pg × Int := if mayB size l = true ∧ numOk n ∧ tx ≤ 4611686018427387904 then (⟨2, l.length, n, 0, tx, zerosTo (codeL l) (size.toNat - 24)⟩, 0) else (noPage, 2)
theorem sizeB_mono (l : List Bkt) (i : Nat) : sizeB (l.take i) ≤ sizeB l := by
  have e : sizeB l = sizeB (l.take i) + sizeB (l.drop i) := by
    unfold sizeB
    rw [← List.sum_append, ← List.map_append, List.take_append_drop]
  omega
theorem page10 (size n tx : Int) (v : Value) (l : List Bkt) (hl : l.length ≤ 5000000000000) (hnm : ∀ b ∈ l, b.name.length ≤ 140737488355328) (a : AW) (m : Nat) (hm : m ≤ a.next) (hv : RV encB 3 a.heap m v l) (K : Value → AW → Prop) :
    WCall Try.prog GV 10 [.int .i64 size, .int .u32 n, .int .u64 tx, v] a K = K (.tuple #[.agg (encP (pageB size n tx l).1).toArray, .int .i64 (pageB size n tx l).2]) a := by
  refine call_eq ?_ K
  rw [call_env Try.func10 rfl Try.ntmps10 rfl rfl (by simp)]
  obtain ⟨pp, c, rfl⟩ := hv.len
  have hv0 : RV encB 3 ((a.next, Blk.cells (encP noPage) true) :: a.heap) m (.slice pp l.length c) l := hv.keep (Nat.le_refl _) fun j hj => look_miss (by omega)
  have hmay := fun K => may29 size (.slice pp l.length c) l hl hnm ⟨a.next + 1, (a.next, Blk.cells (encP noPage) true) :: a.heap, a.next, []⟩ m (by simp only; omega) hv0 K
  simp only [encP, noPage] at hmay
  by_cases h1 : mayB size l = true
  · by_cases h2 : numOk n
    · by_cases h3 : tx ≤ 4611686018427387904
      · have hb : pageB size n tx l = (⟨2, l.length, n, 0, tx, zerosTo (codeL l) (size.toNat - 24)⟩, 0) := by unfold pageB; rw [if_pos ⟨h1, h2, h3⟩]
        simp -dsimp (maxSteps := 4000000) (disch := first | omega | assumption | (simp only [FB, Nat.reduceAdd]; done) | (simp only [LB]; omega)) only [EB, ↓reduceIte, WB, Nat.reduceSub, Nat.reduceAdd, Int.reduceEq, Int.reduceNe, Int.reduceLT, Int.reduceLE, Int.reduceAdd, Int.reduceSub, Int.reduceMul, Int.reduceNeg, Int.reduceToNat, Nat.reduceEqDiff, Nat.reduceLT, Nat.reduceLeDiff, Nat.reduceMul, List.replicate, reduceCtorEq, TB, NB, hmay, h1, h2, h3, number30, show ¬ (4611686018427387904 : Int) < tx by omega]
        have hmp : mayP size l := by
          apply Classical.byContradiction
          intro h; rw [mayB_false h] at h1; cases h1
        have hfit := may_fit hmp
        refine loop_inv (fun r t w => ∃ i n1 h q v, ∃ e : Nat → Value, r = l.length - i ∧ i ≤ l.length ∧ w = ⟨n1, h, a.next, []⟩ ∧ a.next + 1 ≤ n1 ∧ (∀ j, j < a.next → look j h = look j a.heap) ∧ look a.next h = some (.cells (encP noPage) true) ∧ t = TT 66 e ∧ OwnS encU 1 h n1 q v (codeL (l.take i)) ∧ a.next + 1 ≤ q ∧
          e 0 = .int .i64 size ∧ e 1 = .int .u32 n ∧ e 2 = .int .u64 tx ∧ e 3 = .slice pp l.length c ∧ e 8 = .pointer (some ⟨a.next, 0, none⟩) ∧ e 10 = v ∧ e 29 = .slice pp l.length c ∧ e 30 = .int .i64 l.length ∧ e 31 = .int .i64 i)
          ⟨0, a.next + 1, _, a.next + 1, _, _, rfl, by omega, rfl, Nat.le_refl _, fun j hj => look_miss (by omega), look_self, rfl, OwnS.nil, Nat.le_refl _, rfl, rfl, rfl, rfl, rfl, rfl, rfl, rfl, rfl⟩ ?_
        rintro r t w ⟨i, n1, h, q, vb, e, rfl, hi, rfl, hn1, hh, hpg, rfl, ho, hq, t0, t1, t2, t3, t8, t10, t29, t30, t31⟩
        have hcl : (codeL (l.take i)).length ≤ 4096 := by rw [codeL_len]; have := sizeB_mono l i; omega
        by_cases hlt : i < l.length
        · obtain ⟨b, o, sp, rw0, cc, rfl, hlk, hbn, hle, hat, -⟩ := hv.at encB_len hlt
          have hlk' : look b h = some (.cells cc rw0) := by rw [hh b (by omega)]; exact hlk
          have hone := (hmp.1 i hlt).1
          obtain ⟨⟨hnm1, hnm2⟩, hrk⟩ := hone
          have hroot : 0 ≤ l[i].root ∧ l[i].root ≤ 2147483647 ∧ 0 ≤ l[i].keys ∧ l[i].keys ≤ 2147483647 := by
            rcases hrk with ⟨h1, h2⟩ | ⟨⟨h1, h2⟩, h3, h4⟩ <;> omega
          obtain ⟨R, hR⟩ : ∃ R : Nat, l[i].root = R := ⟨l[i].root.toNat, by omega⟩
          obtain ⟨Q, hQ⟩ : ∃ Q : Nat, l[i].keys = Q := ⟨l[i].keys.toNat, by omega⟩
          simp -dsimp (maxSteps := 4000000) (disch := first | omega | assumption | (simp only [FB, Nat.reduceAdd]; done) | (simp only [LB]; omega)) only [EB, ↓reduceIte, WB, Nat.reduceSub, Nat.reduceAdd, Int.reduceEq, Int.reduceNe, Int.reduceLT, Int.reduceLE, Int.reduceAdd, Int.reduceSub, Int.reduceMul, Int.reduceNeg, Int.reduceToNat, Nat.reduceEqDiff, Nat.reduceLT, Nat.reduceLeDiff, Nat.reduceMul, List.replicate, reduceCtorEq, TB, NB, t0, t1, t2, t3, t8, t10, t29, t30, t31, show (i : Int) < l.length by omega, hlk', hat, encB]
          refine code_draw [(0, 1), (0, 2), (0, 3), (0, 4), (0, 6), (0, 7), (1, 6), (1, 7), (2, 6), (2, 7), (3, 6), (3, 7), (4, 6), (4, 7), (5, 6), (5, 7)] (by decide +kernel) (by decide +kernel) ?_
          simp -dsimp (maxSteps := 4000000) (disch := first | omega | assumption | (simp only [FB, Nat.reduceAdd]; done) | (simp only [LB]; omega)) only [EB, ↓reduceIte, WB, Nat.reduceSub, Nat.reduceAdd, Int.reduceEq, Int.reduceNe, Int.reduceLT, Int.reduceLE, Int.reduceAdd, Int.reduceSub, Int.reduceMul, Int.reduceNeg, Int.reduceToNat, Nat.reduceEqDiff, Nat.reduceLT, Nat.reduceLeDiff, Nat.reduceMul, List.replicate, reduceCtorEq, RB, Nat.reduceEqDiff, TB, NB, t0, t1, t2, t3, t8, t10, t29, t30, t31, wrapu64]
          refine put31 vb (codeL (l.take i)) l[i].name.length 1 (by omega) (by omega) (by omega) ⟨n1 + 2, _, n1 + 2, []⟩ n1 (by simp only; omega) (ho.rv.keep (Nat.le_refl _) fun j hj => look_miss (by omega)) _ fun v1 n2 h2 y1 y2 y3 y4 => ?_
          simp only at y1 y2 y3 y4
          have hb1 : look n1 h2 = some (.cells [.string (mkStr l[i].name), .int .u32 l[i].root, .int .i64 l[i].keys] true) := by rw [y4 n1 (by omega)]; exact look_self
          have hnl : l[i].name.length ≤ 16 := hnm2
          obtain ⟨v3, q3, n3, h3, d3, e3, o3, f1, f2, f3, f4, f5⟩ := append_str (E := Try.prog) (t0 := 53) (t1 := 9) (bs := n2) (d := []) (ys := l[i].name) (by decide +kernel) y3 (by rw [List.length_append, le_len]; omega)
          have hd3 : soilAll [] a.next d3 = [] := soil_back f5 (by omega)
          simp -dsimp (maxSteps := 4000000) (disch := first | omega | assumption | (simp only [FB, Nat.reduceAdd]; done) | (simp only [LB]; omega)) only [EB, ↓reduceIte, WB, Nat.reduceSub, Nat.reduceAdd, Int.reduceEq, Int.reduceNe, Int.reduceLT, Int.reduceLE, Int.reduceAdd, Int.reduceSub, Int.reduceMul, Int.reduceNeg, Int.reduceToNat, Nat.reduceEqDiff, Nat.reduceLT, Nat.reduceLeDiff, Nat.reduceMul, List.replicate, reduceCtorEq, RB, Nat.reduceEqDiff, TB, NB, hb1, show n1 ≠ n1 + 1 by omega, e3, hd3]
          have hb3 : look n1 h3 = some (.cells [.string (mkStr l[i].name), .int .u32 l[i].root, .int .i64 l[i].keys] true) := by rw [f4 n1 (by omega) (by omega)]; exact hb1
          rw [hR, hQ] at hb3
          have hcd : codeL (l.take (i + 1)) = codeL (l.take i) ++ le l[i].name.length 1 ++ l[i].name ++ le R 4 ++ le Q 4 := by
            rw [codeL_take l i hlt, codeB, hR, hQ]
            simp only [Int.toNat_natCast, List.append_assoc]
          refine code_draw [(0, 1), (0, 2), (0, 3), (0, 5), (0, 6), (0, 7), (1, 5), (1, 6), (1, 7), (2, 5), (2, 6), (2, 7), (3, 5), (3, 6), (3, 7), (4, 5), (4, 6), (4, 7)] (by decide +kernel) (by decide +kernel) ?_
          simp -dsimp (maxSteps := 4000000) (disch := first | omega | assumption | (simp only [FB, Nat.reduceAdd]; done) | (simp only [LB]; omega)) only [EB, ↓reduceIte, WB, Nat.reduceSub, Nat.reduceAdd, Int.reduceEq, Int.reduceNe, Int.reduceLT, Int.reduceLE, Int.reduceAdd, Int.reduceSub, Int.reduceMul, Int.reduceNeg, Int.reduceToNat, Nat.reduceEqDiff, Nat.reduceLT, Nat.reduceLeDiff, Nat.reduceMul, List.replicate, reduceCtorEq, RB, Nat.reduceEqDiff, TB, NB, hb3, show n1 < n3 + 1 by omega, wrapu64]
          refine put31 v3 _ R 4 (by omega) (by omega) (by simp only [List.length_append, le_len]; omega) ⟨n3 + 1, h3, n3 + 1, []⟩ n3 (by simp only; omega) o3.rv _ fun v4 n4 h4 z1 z2 z3 z4 => ?_
          simp only at z1 z2 z3 z4
          have hb4 : look n1 h4 = some (.cells [.string (mkStr l[i].name), .int .u32 R, .int .i64 Q] true) := by rw [z4 n1 (by omega)]; exact hb3
          simp -dsimp (maxSteps := 4000000) (disch := first | omega | assumption | (simp only [FB, Nat.reduceAdd]; done) | (simp only [LB]; omega)) only [EB, ↓reduceIte, WB, Nat.reduceSub, Nat.reduceAdd, Int.reduceEq, Int.reduceNe, Int.reduceLT, Int.reduceLE, Int.reduceAdd, Int.reduceSub, Int.reduceMul, Int.reduceNeg, Int.reduceToNat, Nat.reduceEqDiff, Nat.reduceLT, Nat.reduceLeDiff, Nat.reduceMul, List.replicate, reduceCtorEq, RB, Nat.reduceEqDiff, TB, NB, hb4, show n1 < n4 by omega, wrapu64]
          refine put31 v4 _ Q 4 (by omega) (by omega) (by simp only [List.length_append, le_len]; omega) ⟨n4, h4, n4, []⟩ n4 (by simp only; omega) z3.rv _ fun v5 n5 h5 u1 u2 u3 u4 => ?_
          simp only at u1 u2 u3 u4
          simp -dsimp (maxSteps := 4000000) (disch := first | omega | assumption | (simp only [FB, Nat.reduceAdd]; done) | (simp only [LB]; omega)) only [EB, ↓reduceIte, WB, Nat.reduceSub, Nat.reduceAdd, Int.reduceEq, Int.reduceNe, Int.reduceLT, Int.reduceLE, Int.reduceAdd, Int.reduceSub, Int.reduceMul, Int.reduceNeg, Int.reduceToNat, Nat.reduceEqDiff, Nat.reduceLT, Nat.reduceLeDiff, Nat.reduceMul, List.replicate, reduceCtorEq, RB, Nat.reduceEqDiff, TB, NB, t31, wrap64]
          refine ⟨l.length - (i + 1), by omega, i + 1, n5, h5, n4, v5, _, rfl, by omega, rfl, by omega, fun j hj => ?_, ?_, rfl, by rw [hcd]; exact u3, by omega, ?_⟩
          · rw [u4 j (by omega), z4 j (by omega), f4 j (by omega) (by omega), y4 j (by omega), look_miss (by omega), hh j hj]
          · rw [u4 _ (by omega), z4 _ (by omega), f4 _ (by omega) (by omega), y4 _ (by omega), look_miss (by omega), hpg]
          · simp only [ups_at, ↓reduceIte, Nat.reduceEqDiff]
            exact ⟨t0, t1, t2, t3, t8, trivial, t29, t30, (by first | trivial | rfl | omega)⟩
        · obtain rfl : i = l.length := by omega
          rw [List.take_length] at ho hcl
          have hbd : bodyOf size (codeL l) = (zerosTo (codeL l) (size.toNat - 24), 0) := by
            unfold bodyOf
            rw [if_pos hmp.2.1, if_pos (by rw [codeL_len]; omega)]
          have hbody := fun K => body32 size vb (codeL l) (by omega) ⟨n1, h, a.next, []⟩ n1 (Nat.le_refl _) ho.rv K
          simp only [hbd] at hbody
          simp -dsimp (maxSteps := 4000000) (disch := first | omega | assumption | (simp only [FB, Nat.reduceAdd]; done) | (simp only [LB]; omega)) only [EB, ↓reduceIte, WB, Nat.reduceSub, Nat.reduceAdd, Int.reduceEq, Int.reduceNe, Int.reduceLT, Int.reduceLE, Int.reduceAdd, Int.reduceSub, Int.reduceMul, Int.reduceNeg, Int.reduceToNat, Nat.reduceEqDiff, Nat.reduceLT, Nat.reduceLeDiff, Nat.reduceMul, List.replicate, reduceCtorEq, TB, NB, t0, t1, t2, t3, t8, t10, t29, t30, t31, show ¬ (l.length : Int) < l.length by omega, hbody, hpg, encP, noPage, hb]
          exact ⟨(by first | trivial | rfl | omega), (by first | trivial | rfl | omega)⟩
      · have hb : pageB size n tx l = (noPage, 2) := by unfold pageB; rw [if_neg fun h => h3 h.2.2]
        simp -dsimp (maxSteps := 4000000) (disch := first | omega | assumption | (simp only [FB, Nat.reduceAdd]; done) | (simp only [LB]; omega)) only [EB, ↓reduceIte, WB, Nat.reduceSub, Nat.reduceAdd, Int.reduceEq, Int.reduceNe, Int.reduceLT, Int.reduceLE, Int.reduceAdd, Int.reduceSub, Int.reduceMul, Int.reduceNeg, Int.reduceToNat, Nat.reduceEqDiff, Nat.reduceLT, Nat.reduceLeDiff, Nat.reduceMul, List.replicate, reduceCtorEq, TB, NB, hmay, h1, h2, h3, number30, show (4611686018427387904 : Int) < tx by omega, hb, encP, noPage]
        exact ⟨(by first | trivial | rfl | omega), (by first | trivial | rfl | omega)⟩
    · have hb : pageB size n tx l = (noPage, 2) := by unfold pageB; rw [if_neg fun h => h2 h.2.1]
      simp -dsimp (maxSteps := 4000000) (disch := first | omega | assumption | (simp only [FB, Nat.reduceAdd]; done) | (simp only [LB]; omega)) only [EB, ↓reduceIte, WB, Nat.reduceSub, Nat.reduceAdd, Int.reduceEq, Int.reduceNe, Int.reduceLT, Int.reduceLE, Int.reduceAdd, Int.reduceSub, Int.reduceMul, Int.reduceNeg, Int.reduceToNat, Nat.reduceEqDiff, Nat.reduceLT, Nat.reduceLeDiff, Nat.reduceMul, List.replicate, reduceCtorEq, TB, NB, hmay, h1, h2, number30, hb, encP, noPage]
      exact ⟨(by first | trivial | rfl | omega), (by first | trivial | rfl | omega)⟩
  · have hb : pageB size n tx l = (noPage, 2) := by unfold pageB; rw [if_neg fun h => h1 h.1]
    have h1' : mayB size l = false := by simpa using h1
    simp -dsimp (maxSteps := 4000000) (disch := first | omega | assumption | (simp only [FB, Nat.reduceAdd]; done) | (simp only [LB]; omega)) only [EB, ↓reduceIte, WB, Nat.reduceSub, Nat.reduceAdd, Int.reduceEq, Int.reduceNe, Int.reduceLT, Int.reduceLE, Int.reduceAdd, Int.reduceSub, Int.reduceMul, Int.reduceNeg, Int.reduceToNat, Nat.reduceEqDiff, Nat.reduceLT, Nat.reduceLeDiff, Nat.reduceMul, List.replicate, reduceCtorEq, TB, NB, hmay, h1', hb, encP, noPage]
    exact ⟨(by first | trivial | rfl | omega), (by first | trivial | rfl | omega)⟩
end Go.Proofs.YtpcaoohacgkeiaaAM
