/- Chapter 13: a leaf's page. -/
import Derived.Test.YtijmlgccaicblaaB2
namespace Go.Proofs.YtijmlgccaicblaaAM
open Go Go.RowKit
set_option linter.unusedVariables false
set_option linter.unusedSimpArgs false
set_option maxRecDepth 10000
set_option maxHeartbeats 4000000

def vB (x : It) : List UInt8 := if x.over = true then le x.len.toNat 4 ++ le x.head.toNat 4 else le x.val.length 1 ++ x.val
theorem vB_len (x : It) : (vB x).length = vsz x := by
  unfold vB vsz
  split <;> simp only [List.length_append, le_len]
theorem put57 (x : It) (hx : itOk x) (v : Value) (l : List UInt8) (hl : l.length ≤ 50000) (a : AW) (m : Nat) (hm : m ≤ a.next) (hv : RV encU 1 a.heap m v l) (K : Value → AW → Prop)
    (hK : ∀ v' n' h', a.next ≤ n' → n' ≤ a.next + 1 → OwnS encU 1 h' n' a.next v' (l ++ vB x) → (∀ j, j < a.next → look j h' = look j a.heap) → K v' ⟨n', h', a.base, a.dirty⟩) :
    WCall Try.prog GV 57 [.agg (encI x).toArray, v] a K := by
  rw [call_env Try.func57 rfl Try.ntmps57 rfl rfl (by simp), encI]
  obtain ⟨key, val, over, len, head⟩ := x
  cases over with
  | true =>
    obtain ⟨hk, hv1, hl1, hl2, hh1, hh2⟩ := (itOk_t rfl).1 hx
    simp only at hk hv1 hl1 hl2 hh1 hh2
    obtain ⟨R, rfl⟩ : ∃ R : Nat, len = R := ⟨len.toNat, by omega⟩
    obtain ⟨Q, rfl⟩ : ∃ Q : Nat, head = Q := ⟨head.toNat, by omega⟩
    have hvb : vB ⟨key, val, true, (R : Int), (Q : Int)⟩ = le R 4 ++ le Q 4 := by simp [vB]
    rw [hvb] at hK
    simp -dsimp (maxSteps := 4000000) (disch := first | omega | assumption | (simp only [FB, Nat.reduceAdd]; done) | (simp only [LB]; omega)) only [EB, ↓reduceIte, WB, Nat.reduceSub, Nat.reduceAdd, Int.reduceEq, Int.reduceNe, Int.reduceLT, Int.reduceLE, Int.reduceAdd, Int.reduceSub, Int.reduceMul, Int.reduceNeg, Int.reduceToNat, Nat.reduceEqDiff, Nat.reduceLT, Nat.reduceLeDiff, Nat.reduceMul, List.replicate, reduceCtorEq, TB, NB, ]
    refine code_draw [(0, 1), (0, 2), (0, 3), (0, 5), (0, 6), (0, 7), (1, 5), (1, 6), (1, 7), (2, 5), (2, 6), (2, 7), (3, 5), (3, 6), (3, 7), (4, 5), (4, 6), (4, 7)] (by decide +kernel) (by decide +kernel) ?_
    simp -dsimp (maxSteps := 4000000) (disch := first | omega | assumption | (simp only [FB, Nat.reduceAdd]; done) | (simp only [LB]; omega)) only [EB, ↓reduceIte, WB, Nat.reduceSub, Nat.reduceAdd, Int.reduceEq, Int.reduceNe, Int.reduceLT, Int.reduceLE, Int.reduceAdd, Int.reduceSub, Int.reduceMul, Int.reduceNeg, Int.reduceToNat, Nat.reduceEqDiff, Nat.reduceLT, Nat.reduceLeDiff, Nat.reduceMul, List.replicate, reduceCtorEq, RB, Nat.reduceEqDiff, TB, NB, wrapu64]
    refine put56 v l R 4 (by omega) (by omega) (by omega) ⟨a.next + 2, _, a.next + 2, []⟩ m (by simp only; omega) (hv.keep (Nat.le_refl _) fun j hj => look_miss (by omega)) _ fun v1 n2 h2 y1 y2 y3 y4 => ?_
    simp only at y1 y2 y3 y4
    have hb1 : look a.next h2 = some (.cells [.string (mkStr key), .string (mkStr val), .bool true, .int .i64 R, .int .u32 Q] true) := by rw [y4 a.next (by omega)]; exact look_self
    simp -dsimp (maxSteps := 4000000) (disch := first | omega | assumption | (simp only [FB, Nat.reduceAdd]; done) | (simp only [LB]; omega)) only [EB, ↓reduceIte, WB, Nat.reduceSub, Nat.reduceAdd, Int.reduceEq, Int.reduceNe, Int.reduceLT, Int.reduceLE, Int.reduceAdd, Int.reduceSub, Int.reduceMul, Int.reduceNeg, Int.reduceToNat, Nat.reduceEqDiff, Nat.reduceLT, Nat.reduceLeDiff, Nat.reduceMul, List.replicate, reduceCtorEq, RB, Nat.reduceEqDiff, TB, NB, hb1, wrapu64]
    refine put56 v1 _ Q 4 (by omega) (by omega) (by simp only [List.length_append, le_len]; omega) ⟨n2, h2, n2, []⟩ n2 (by simp only; omega) y3.rv _ fun v2 n3 h3 z1 z2 z3 z4 => ?_
    simp only at z1 z2 z3 z4
    simp -dsimp (maxSteps := 4000000) (disch := first | omega | assumption | (simp only [FB, Nat.reduceAdd]; done) | (simp only [LB]; omega)) only [EB, ↓reduceIte, WB, Nat.reduceSub, Nat.reduceAdd, Int.reduceEq, Int.reduceNe, Int.reduceLT, Int.reduceLE, Int.reduceAdd, Int.reduceSub, Int.reduceMul, Int.reduceNeg, Int.reduceToNat, Nat.reduceEqDiff, Nat.reduceLT, Nat.reduceLeDiff, Nat.reduceMul, List.replicate, reduceCtorEq, RB, Nat.reduceEqDiff, TB, NB, ]
    rw [List.append_assoc] at z3
    exact leave_own (a := a) encU_flat z3 (by omega) fun v' n' h' x1 x2 x3 x4 _ => hK v' n' h' x1 x2 x3 x4
  | false =>
    obtain ⟨hk, hv1, hl1, hl2⟩ := (itOk_f rfl).1 hx
    simp only at hk hv1 hl1 hl2
    have hvb : vB ⟨key, val, false, len, head⟩ = le val.length 1 ++ val := by simp [vB]
    rw [hvb] at hK
    simp -dsimp (maxSteps := 4000000) (disch := first | omega | assumption | (simp only [FB, Nat.reduceAdd]; done) | (simp only [LB]; omega)) only [EB, ↓reduceIte, WB, Nat.reduceSub, Nat.reduceAdd, Int.reduceEq, Int.reduceNe, Int.reduceLT, Int.reduceLE, Int.reduceAdd, Int.reduceSub, Int.reduceMul, Int.reduceNeg, Int.reduceToNat, Nat.reduceEqDiff, Nat.reduceLT, Nat.reduceLeDiff, Nat.reduceMul, List.replicate, reduceCtorEq, TB, NB, ]
    refine code_draw [(0, 1), (0, 2), (0, 3), (0, 4), (0, 6), (0, 7), (1, 6), (1, 7), (2, 6), (2, 7), (3, 6), (3, 7), (4, 6), (4, 7), (5, 6), (5, 7)] (by decide +kernel) (by decide +kernel) ?_
    simp -dsimp (maxSteps := 4000000) (disch := first | omega | assumption | (simp only [FB, Nat.reduceAdd]; done) | (simp only [LB]; omega)) only [EB, ↓reduceIte, WB, Nat.reduceSub, Nat.reduceAdd, Int.reduceEq, Int.reduceNe, Int.reduceLT, Int.reduceLE, Int.reduceAdd, Int.reduceSub, Int.reduceMul, Int.reduceNeg, Int.reduceToNat, Nat.reduceEqDiff, Nat.reduceLT, Nat.reduceLeDiff, Nat.reduceMul, List.replicate, reduceCtorEq, RB, Nat.reduceEqDiff, TB, NB, wrapu64]
    refine put56 v l val.length 1 (by omega) (by omega) (by omega) ⟨a.next + 2, _, a.next + 2, []⟩ m (by simp only; omega) (hv.keep (Nat.le_refl _) fun j hj => look_miss (by omega)) _ fun v1 n2 h2 y1 y2 y3 y4 => ?_
    simp only at y1 y2 y3 y4
    have hb1 : look a.next h2 = some (.cells [.string (mkStr key), .string (mkStr val), .bool false, .int .i64 len, .int .u32 head] true) := by rw [y4 a.next (by omega)]; exact look_self
    obtain ⟨v3, q3, n3, h3, d3, e3, o3, f1, f2, f3, f4, f5⟩ := append_str (E := Try.prog) (t0 := 104) (t1 := 9) (bs := n2) (d := []) (ys := val) (by decide +kernel) y3 (by rw [List.length_append, le_len]; omega)
    have hd3 : soilAll [] a.next d3 = [] := soil_back f5 (by omega)
    simp -dsimp (maxSteps := 4000000) (disch := first | omega | assumption | (simp only [FB, Nat.reduceAdd]; done) | (simp only [LB]; omega)) only [EB, ↓reduceIte, WB, Nat.reduceSub, Nat.reduceAdd, Int.reduceEq, Int.reduceNe, Int.reduceLT, Int.reduceLE, Int.reduceAdd, Int.reduceSub, Int.reduceMul, Int.reduceNeg, Int.reduceToNat, Nat.reduceEqDiff, Nat.reduceLT, Nat.reduceLeDiff, Nat.reduceMul, List.replicate, reduceCtorEq, RB, Nat.reduceEqDiff, TB, NB, hb1, e3, hd3]
    rw [List.append_assoc] at o3
    exact leave_own (a := a) encU_flat o3 (by omega) fun v' n' h' x1 x2 x3 x4 _ => hK v' n' h' x1 x2 x3 x4
theorem soil_not {bs q i : Nat} {d' : List Nat} (h : d' = [] ∨ d' = soilW bs [] q) (hq : i ≠ q) : d'.contains i = false := by
  rcases h with rfl | rfl
  · rfl
  · unfold soilW; split <;> simp [hq]
/-- A page. -/
structure Pg where
  kind : Int
  count : Int
  page : Int
  link : Int
  tx : Int
  body : List UInt8
def encP (p : Pg) : List Value := [.int .i64 p.kind, .int .i64 p.count, .int .u32 p.page, .int .u32 p.link, .int .u64 p.tx, .string (mkStr p.body)]
def noPage : Pg := ⟨0, 0, 0, 0, 0, []⟩
def ovN (x : It) : Nat := if x.over = true then 1 else 0
def codeI (x : It) : List UInt8 := le (ovN x) 1 ++ le x.key.length 1 ++ x.key ++ vB x
def codeL (l : List It) : List UInt8 := l.flatMap codeI
theorem codeI_len (x : It) : (codeI x).length = isz x := by simp only [codeI, List.length_append, le_len, vB_len, isz]
theorem codeL_len (l : List It) : (codeL l).length = sizeI l := by
  induction l with
  | nil => rfl
  | cons b l ih =>
    have e1 : codeL (b :: l) = codeI b ++ codeL l := rfl
    rw [e1, List.length_append, ih, codeI_len]
    simp only [sizeI, List.map_cons, List.sum_cons]
theorem codeL_take (l : List It) (i : Nat) (h : i < l.length) : codeL (l.take (i + 1)) = codeL (l.take i) ++ codeI l[i] := by
  unfold codeL
  rw [List.take_add_one, List.getElem?_eq_getElem h]
  simp only [Option.toList_some, List.flatMap_append, List.flatMap_cons, List.flatMap_nil, List.append_nil]
theorem itOk_sz {x : It} (h : itOk x) : 3 ≤ isz x ∧ isz x ≤ 298 ∧ x.key.length ≤ 40 ∧ x.val.length ≤ 255 := by
  obtain ⟨hk, ⟨ho, hv, -⟩ | ⟨ho, hv, -⟩⟩ := h
  · simp only [isz, vsz, ho, if_true]; rw [hv]; simp; omega
  · simp only [isz, vsz, ho]; simp; omega
theorem sizeI_bd (l : List It) (h : ∀ x ∈ l, itOk x) : 3 * l.length ≤ sizeI l ∧ sizeI l ≤ l.length * 298 := by
  induction l with
  | nil => simp [sizeI]
  | cons b l ih =>
    have h1 := itOk_sz (h b (by simp))
    have h2 := ih fun x hx => h x (by simp [hx])
    simp only [sizeI, List.map_cons, List.sum_cons, List.length_cons] at *
    omega
theorem mayP_ok {l : List It} (h : mayP l) : ∀ x ∈ l, itOk x := by
  intro x hx
  obtain ⟨i, hi, rfl⟩ := List.mem_iff_getElem.1 hx
  exact (h.1 i hi).1
theorem room_le (x : Int) : 0 ≤ room x ∧ room x ≤ 4072 := by
  unfold room
  split
  · rename_i h; simp only [goodSz] at h; omega
  · omega
/-- What a leaf's page is. -/
noncomputable def pageI (size n tx : Int) (l : List It) : Pg × Int := if mayI l = true ∧ (sizeI l : Int) ≤ room size ∧ numOk n ∧ tx ≤ 4611686018427387904 then (⟨4, l.length, n, 0, tx, zerosTo (codeL l) (size.toNat - 24)⟩, 0) else (noPage, 2)
theorem page37 (size n tx : Int) (v : Value) (l : List It) (hl : l.length ≤ 5000000000000) (a : AW) (m : Nat) (hm : m ≤ a.next) (hv : RV encI 5 a.heap m v l) (K : Value → AW → Prop) :
    WCall Try.prog GV 37 [.int .i64 size, .int .u32 n, .int .u64 tx, v] a K = K (.tuple #[.agg (encP (pageI size n tx l).1).toArray, .int .i64 (pageI size n tx l).2]) a := by
  refine call_eq ?_ K
  rw [call_env Try.func37 rfl Try.ntmps37 rfl rfl (by simp)]
  obtain ⟨pp, c, rfl⟩ := hv.len
  have hv0 : RV encI 5 ((a.next, Blk.cells (encP noPage) true) :: a.heap) m (.slice pp l.length c) l := hv.keep (Nat.le_refl _) fun j hj => look_miss (by omega)
  have hmay := fun K => may54 (.slice pp l.length c) l hl ⟨a.next + 1, (a.next, Blk.cells (encP noPage) true) :: a.heap, a.next, []⟩ m (by simp only; omega) hv0 K
  simp only [encP, noPage] at hmay
  by_cases h1 : mayI l = true
  · have hmp := mayI_of h1
    have hok := mayP_ok hmp
    have hbd := sizeI_bd l hok
    have hsz := fun K => size41 (.slice pp l.length c) l hl (by omega) (fun x hx => by have := itOk_sz (hok x hx); omega) ⟨a.next + 1, (a.next, Blk.cells (encP noPage) true) :: a.heap, a.next, []⟩ m (by simp only; omega) hv0 K
    simp only [encP, noPage] at hsz
    by_cases hr : (sizeI l : Int) ≤ room size
    · by_cases h2 : numOk n
      · by_cases h3 : tx ≤ 4611686018427387904
        · have hb : pageI size n tx l = (⟨4, l.length, n, 0, tx, zerosTo (codeL l) (size.toNat - 24)⟩, 0) := by unfold pageI; rw [if_pos ⟨h1, hr, h2, h3⟩]
          simp -dsimp (maxSteps := 4000000) (disch := first | omega | assumption | (simp only [FB, Nat.reduceAdd]; done) | (simp only [LB]; omega)) only [EB, ↓reduceIte, WB, Nat.reduceSub, Nat.reduceAdd, Int.reduceEq, Int.reduceNe, Int.reduceLT, Int.reduceLE, Int.reduceAdd, Int.reduceSub, Int.reduceMul, Int.reduceNeg, Int.reduceToNat, Nat.reduceEqDiff, Nat.reduceLT, Nat.reduceLeDiff, Nat.reduceMul, List.replicate, reduceCtorEq, TB, NB, hmay, h1, h2, h3, hsz, room40, number55, show ¬ room size < (sizeI l : Int) by omega, show ¬ (4611686018427387904 : Int) < tx by omega]
          have hrl := room_le size
          refine loop_inv (fun r t w => ∃ i n1 h q v, ∃ e : Nat → Value, r = l.length - i ∧ i ≤ l.length ∧ w = ⟨n1, h, a.next, []⟩ ∧ a.next + 1 ≤ n1 ∧ (∀ j, j < a.next → look j h = look j a.heap) ∧ look a.next h = some (.cells (encP noPage) true) ∧ t = TT 71 e ∧ OwnS encU 1 h n1 q v (codeL (l.take i)) ∧ a.next + 1 ≤ q ∧
            e 0 = .int .i64 size ∧ e 1 = .int .u32 n ∧ e 2 = .int .u64 tx ∧ e 3 = .slice pp l.length c ∧ e 8 = .pointer (some ⟨a.next, 0, none⟩) ∧ e 10 = v ∧ e 36 = .slice pp l.length c ∧ e 37 = .int .i64 l.length ∧ e 38 = .int .i64 i)
            ⟨0, a.next + 1, _, a.next + 1, _, _, rfl, by omega, rfl, Nat.le_refl _, fun j hj => look_miss (by omega), look_self, rfl, OwnS.nil, Nat.le_refl _, rfl, rfl, rfl, rfl, rfl, rfl, rfl, rfl, rfl⟩ ?_
          rintro r t w ⟨i, n1, h, q, vb, e, rfl, hi, rfl, hn1, hh, hpg, rfl, ho, hq, t0, t1, t2, t3, t8, t10, t36, t37, t38⟩
          have hcl : (codeL (l.take i)).length ≤ 4096 := by rw [codeL_len]; have := sizeI_upto l i; omega
          by_cases hlt : i < l.length
          · obtain ⟨b, o, sp, rw0, cc, rfl, hlk, hbn, hle, hat, -⟩ := hv.at encI_len hlt
            have hlk' : look b h = some (.cells cc rw0) := by rw [hh b (by omega)]; exact hlk
            have hio := hok _ (List.getElem_mem hlt)
            have hsx := itOk_sz hio
            obtain ⟨X, hX⟩ : ∃ X, X = l[i] := ⟨_, rfl⟩
            have hcd : codeL (l.take (i + 1)) = codeL (l.take i) ++ le (ovN X) 1 ++ le X.key.length 1 ++ X.key ++ vB X := by
              rw [codeL_take l i hlt, codeI, ← hX]
              simp only [List.append_assoc]
            rw [← hX] at hat hio hsx
            have p57 := fun vv ll hll aa mm hmm hvv KK hKK => put57 X hio vv ll hll aa mm hmm hvv KK hKK
            simp only [encI] at p57
            cases hover : X.over with
            | true =>
              have hov : ovN X = 1 := by unfold ovN; rw [if_pos hover]
              rw [hov] at hcd
              simp only [hover] at p57
              simp -dsimp (maxSteps := 4000000) (disch := first | omega | assumption | (simp only [FB, Nat.reduceAdd]; done) | (simp only [LB]; omega)) only [EB, ↓reduceIte, WB, Nat.reduceSub, Nat.reduceAdd, Int.reduceEq, Int.reduceNe, Int.reduceLT, Int.reduceLE, Int.reduceAdd, Int.reduceSub, Int.reduceMul, Int.reduceNeg, Int.reduceToNat, Nat.reduceEqDiff, Nat.reduceLT, Nat.reduceLeDiff, Nat.reduceMul, List.replicate, reduceCtorEq, TB, NB, t0, t1, t2, t3, t8, t10, t36, t37, t38, show (i : Int) < l.length by omega, hlk', hat, encI, hover]
              refine code_draw [(0, 1), (0, 3), (0, 4), (0, 5), (0, 6), (1, 3), (1, 4), (1, 5), (1, 6), (2, 3), (2, 4), (2, 5), (2, 6)] (by decide +kernel) (by decide +kernel) ?_
              simp -dsimp (maxSteps := 4000000) (disch := first | omega | assumption | (simp only [FB, Nat.reduceAdd]; done) | (simp only [LB]; omega)) only [EB, ↓reduceIte, WB, Nat.reduceSub, Nat.reduceAdd, Int.reduceEq, Int.reduceNe, Int.reduceLT, Int.reduceLE, Int.reduceAdd, Int.reduceSub, Int.reduceMul, Int.reduceNeg, Int.reduceToNat, Nat.reduceEqDiff, Nat.reduceLT, Nat.reduceLeDiff, Nat.reduceMul, List.replicate, reduceCtorEq, RB, Nat.reduceEqDiff, TB, NB, t0, t1, t2, t3, t8, t10, t36, t37, t38, wrapu64]
              refine put56 vb (codeL (l.take i)) 1 1 (by omega) (by omega) (by omega) ⟨n1 + 2, _, n1 + 2, []⟩ n1 (by simp only; omega) (ho.rv.keep (Nat.le_refl _) fun j hj => look_miss (by omega)) _ fun v1 n2 h2 y1 y2 y3 y4 => ?_
              simp only at y1 y2 y3 y4
              have hb1 : look n1 h2 = some (.cells [.string (mkStr X.key), .string (mkStr X.val), .bool true, .int .i64 X.len, .int .u32 X.head] true) := by rw [y4 n1 (by omega)]; exact look_self
              simp -dsimp (maxSteps := 4000000) (disch := first | omega | assumption | (simp only [FB, Nat.reduceAdd]; done) | (simp only [LB]; omega)) only [EB, ↓reduceIte, WB, Nat.reduceSub, Nat.reduceAdd, Int.reduceEq, Int.reduceNe, Int.reduceLT, Int.reduceLE, Int.reduceAdd, Int.reduceSub, Int.reduceMul, Int.reduceNeg, Int.reduceToNat, Nat.reduceEqDiff, Nat.reduceLT, Nat.reduceLeDiff, Nat.reduceMul, List.replicate, reduceCtorEq, RB, Nat.reduceEqDiff, TB, NB, hb1, wrapu64]
              refine put56 v1 _ X.key.length 1 (by omega) (by omega) (by simp only [List.length_append, le_len]; omega) ⟨n2, h2, n2, []⟩ n2 (by simp only; omega) y3.rv _ fun v2 n3 h3 z1 z2 z3 z4 => ?_
              simp only at z1 z2 z3 z4
              have hb2 : look n1 h3 = some (.cells [.string (mkStr X.key), .string (mkStr X.val), .bool true, .int .i64 X.len, .int .u32 X.head] true) := by rw [z4 n1 (by omega)]; exact hb1
              simp -dsimp (maxSteps := 4000000) (disch := first | omega | assumption | (simp only [FB, Nat.reduceAdd]; done) | (simp only [LB]; omega)) only [EB, ↓reduceIte, WB, Nat.reduceSub, Nat.reduceAdd, Int.reduceEq, Int.reduceNe, Int.reduceLT, Int.reduceLE, Int.reduceAdd, Int.reduceSub, Int.reduceMul, Int.reduceNeg, Int.reduceToNat, Nat.reduceEqDiff, Nat.reduceLT, Nat.reduceLeDiff, Nat.reduceMul, List.replicate, reduceCtorEq, RB, Nat.reduceEqDiff, TB, NB, ]
              refine code_draw [(0, 1), (0, 2), (0, 3), (0, 4), (1, 2), (1, 3)] (by decide +kernel) (by decide +kernel) ?_
              obtain ⟨v3, q3, n4, h4, d3, e3, o3, f1, f2, f3, f4, f5⟩ := append_str (E := Try.prog) (t0 := 104) (t1 := 9) (h := h3) (n := n3 + 1) (q := n2) (bs := n3 + 1) (d := []) (ys := X.key) (by decide +kernel) (z3.keep (by omega) fun _ => rfl) (by simp only [List.length_append, le_len]; omega)
              have hd3 : soilAll [] a.next d3 = [] := soil_back f5 (by omega)
              simp -dsimp (maxSteps := 4000000) (disch := first | omega | assumption | (simp only [FB, Nat.reduceAdd]; done) | (simp only [LB]; omega)) only [EB, ↓reduceIte, WB, Nat.reduceSub, Nat.reduceAdd, Int.reduceEq, Int.reduceNe, Int.reduceLT, Int.reduceLE, Int.reduceAdd, Int.reduceSub, Int.reduceMul, Int.reduceNeg, Int.reduceToNat, Nat.reduceEqDiff, Nat.reduceLT, Nat.reduceLeDiff, Nat.reduceMul, List.replicate, reduceCtorEq, RB, Nat.reduceEqDiff, TB, NB, hb2, e3, hd3, show n1 < n3 + 1 by omega, soil_not f5 (show n1 ≠ n2 by omega), Bool.not_false]
              refine p57 v3 _ (by simp only [List.length_append, le_len]; omega) ⟨n4, h4, n4, []⟩ n4 (by simp only; omega) o3.rv _ fun v5 n5 h5 u1 u2 u3 u4 => ?_
              simp only at u1 u2 u3 u4
              simp -dsimp (maxSteps := 4000000) (disch := first | omega | assumption | (simp only [FB, Nat.reduceAdd]; done) | (simp only [LB]; omega)) only [EB, ↓reduceIte, WB, Nat.reduceSub, Nat.reduceAdd, Int.reduceEq, Int.reduceNe, Int.reduceLT, Int.reduceLE, Int.reduceAdd, Int.reduceSub, Int.reduceMul, Int.reduceNeg, Int.reduceToNat, Nat.reduceEqDiff, Nat.reduceLT, Nat.reduceLeDiff, Nat.reduceMul, List.replicate, reduceCtorEq, RB, Nat.reduceEqDiff, TB, NB, t38, wrap64]
              refine ⟨l.length - (i + 1), by omega, i + 1, n5, h5, n4, v5, _, rfl, by omega, rfl, by omega, fun j hj => ?_, ?_, rfl, by rw [hcd]; exact u3, by omega, ?_⟩
              · rw [u4 j (by omega), f4 j (by omega) (by omega), z4 j (by omega), y4 j (by omega), look_miss (by omega), hh j hj]
              · rw [u4 _ (by omega), f4 _ (by omega) (by omega), z4 _ (by omega), y4 _ (by omega), look_miss (by omega), hpg]
              · simp only [ups_at, ↓reduceIte, Nat.reduceEqDiff]
                exact ⟨t0, t1, t2, t3, t8, trivial, t36, t37, (by first | trivial | rfl | omega)⟩
            | false =>
              have hov : ovN X = 0 := by unfold ovN; rw [if_neg (by simp [hover])]
              rw [hov] at hcd
              simp only [hover] at p57
              simp -dsimp (maxSteps := 4000000) (disch := first | omega | assumption | (simp only [FB, Nat.reduceAdd]; done) | (simp only [LB]; omega)) only [EB, ↓reduceIte, WB, Nat.reduceSub, Nat.reduceAdd, Int.reduceEq, Int.reduceNe, Int.reduceLT, Int.reduceLE, Int.reduceAdd, Int.reduceSub, Int.reduceMul, Int.reduceNeg, Int.reduceToNat, Nat.reduceEqDiff, Nat.reduceLT, Nat.reduceLeDiff, Nat.reduceMul, List.replicate, reduceCtorEq, TB, NB, t0, t1, t2, t3, t8, t10, t36, t37, t38, show (i : Int) < l.length by omega, hlk', hat, encI, hover]
              refine code_draw [(0, 1), (0, 3), (0, 4), (0, 5), (0, 6), (1, 3), (1, 4), (1, 5), (1, 6), (2, 3), (2, 4), (2, 5), (2, 6)] (by decide +kernel) (by decide +kernel) ?_
              simp -dsimp (maxSteps := 4000000) (disch := first | omega | assumption | (simp only [FB, Nat.reduceAdd]; done) | (simp only [LB]; omega)) only [EB, ↓reduceIte, WB, Nat.reduceSub, Nat.reduceAdd, Int.reduceEq, Int.reduceNe, Int.reduceLT, Int.reduceLE, Int.reduceAdd, Int.reduceSub, Int.reduceMul, Int.reduceNeg, Int.reduceToNat, Nat.reduceEqDiff, Nat.reduceLT, Nat.reduceLeDiff, Nat.reduceMul, List.replicate, reduceCtorEq, RB, Nat.reduceEqDiff, TB, NB, t0, t1, t2, t3, t8, t10, t36, t37, t38, wrapu64]
              refine put56 vb (codeL (l.take i)) 0 1 (by omega) (by omega) (by omega) ⟨n1 + 2, _, n1 + 2, []⟩ n1 (by simp only; omega) (ho.rv.keep (Nat.le_refl _) fun j hj => look_miss (by omega)) _ fun v1 n2 h2 y1 y2 y3 y4 => ?_
              simp only at y1 y2 y3 y4
              have hb1 : look n1 h2 = some (.cells [.string (mkStr X.key), .string (mkStr X.val), .bool false, .int .i64 X.len, .int .u32 X.head] true) := by rw [y4 n1 (by omega)]; exact look_self
              simp -dsimp (maxSteps := 4000000) (disch := first | omega | assumption | (simp only [FB, Nat.reduceAdd]; done) | (simp only [LB]; omega)) only [EB, ↓reduceIte, WB, Nat.reduceSub, Nat.reduceAdd, Int.reduceEq, Int.reduceNe, Int.reduceLT, Int.reduceLE, Int.reduceAdd, Int.reduceSub, Int.reduceMul, Int.reduceNeg, Int.reduceToNat, Nat.reduceEqDiff, Nat.reduceLT, Nat.reduceLeDiff, Nat.reduceMul, List.replicate, reduceCtorEq, RB, Nat.reduceEqDiff, TB, NB, hb1, wrapu64]
              refine put56 v1 _ X.key.length 1 (by omega) (by omega) (by simp only [List.length_append, le_len]; omega) ⟨n2, h2, n2, []⟩ n2 (by simp only; omega) y3.rv _ fun v2 n3 h3 z1 z2 z3 z4 => ?_
              simp only at z1 z2 z3 z4
              have hb2 : look n1 h3 = some (.cells [.string (mkStr X.key), .string (mkStr X.val), .bool false, .int .i64 X.len, .int .u32 X.head] true) := by rw [z4 n1 (by omega)]; exact hb1
              simp -dsimp (maxSteps := 4000000) (disch := first | omega | assumption | (simp only [FB, Nat.reduceAdd]; done) | (simp only [LB]; omega)) only [EB, ↓reduceIte, WB, Nat.reduceSub, Nat.reduceAdd, Int.reduceEq, Int.reduceNe, Int.reduceLT, Int.reduceLE, Int.reduceAdd, Int.reduceSub, Int.reduceMul, Int.reduceNeg, Int.reduceToNat, Nat.reduceEqDiff, Nat.reduceLT, Nat.reduceLeDiff, Nat.reduceMul, List.replicate, reduceCtorEq, RB, Nat.reduceEqDiff, TB, NB, ]
              refine code_draw [(0, 1), (0, 2), (0, 3), (0, 4), (1, 2), (1, 3)] (by decide +kernel) (by decide +kernel) ?_
              obtain ⟨v3, q3, n4, h4, d3, e3, o3, f1, f2, f3, f4, f5⟩ := append_str (E := Try.prog) (t0 := 104) (t1 := 9) (h := h3) (n := n3 + 1) (q := n2) (bs := n3 + 1) (d := []) (ys := X.key) (by decide +kernel) (z3.keep (by omega) fun _ => rfl) (by simp only [List.length_append, le_len]; omega)
              have hd3 : soilAll [] a.next d3 = [] := soil_back f5 (by omega)
              simp -dsimp (maxSteps := 4000000) (disch := first | omega | assumption | (simp only [FB, Nat.reduceAdd]; done) | (simp only [LB]; omega)) only [EB, ↓reduceIte, WB, Nat.reduceSub, Nat.reduceAdd, Int.reduceEq, Int.reduceNe, Int.reduceLT, Int.reduceLE, Int.reduceAdd, Int.reduceSub, Int.reduceMul, Int.reduceNeg, Int.reduceToNat, Nat.reduceEqDiff, Nat.reduceLT, Nat.reduceLeDiff, Nat.reduceMul, List.replicate, reduceCtorEq, RB, Nat.reduceEqDiff, TB, NB, hb2, e3, hd3, show n1 < n3 + 1 by omega, soil_not f5 (show n1 ≠ n2 by omega), Bool.not_false]
              refine p57 v3 _ (by simp only [List.length_append, le_len]; omega) ⟨n4, h4, n4, []⟩ n4 (by simp only; omega) o3.rv _ fun v5 n5 h5 u1 u2 u3 u4 => ?_
              simp only at u1 u2 u3 u4
              simp -dsimp (maxSteps := 4000000) (disch := first | omega | assumption | (simp only [FB, Nat.reduceAdd]; done) | (simp only [LB]; omega)) only [EB, ↓reduceIte, WB, Nat.reduceSub, Nat.reduceAdd, Int.reduceEq, Int.reduceNe, Int.reduceLT, Int.reduceLE, Int.reduceAdd, Int.reduceSub, Int.reduceMul, Int.reduceNeg, Int.reduceToNat, Nat.reduceEqDiff, Nat.reduceLT, Nat.reduceLeDiff, Nat.reduceMul, List.replicate, reduceCtorEq, RB, Nat.reduceEqDiff, TB, NB, t38, wrap64]
              refine ⟨l.length - (i + 1), by omega, i + 1, n5, h5, n4, v5, _, rfl, by omega, rfl, by omega, fun j hj => ?_, ?_, rfl, by rw [hcd]; exact u3, by omega, ?_⟩
              · rw [u4 j (by omega), f4 j (by omega) (by omega), z4 j (by omega), y4 j (by omega), look_miss (by omega), hh j hj]
              · rw [u4 _ (by omega), f4 _ (by omega) (by omega), z4 _ (by omega), y4 _ (by omega), look_miss (by omega), hpg]
              · simp only [ups_at, ↓reduceIte, Nat.reduceEqDiff]
                exact ⟨t0, t1, t2, t3, t8, trivial, t36, t37, (by first | trivial | rfl | omega)⟩
          · obtain rfl : i = l.length := by omega
            rw [List.take_length] at ho hcl
            have hgs : goodSz size := by
              apply Classical.byContradiction
              intro hg
              have : room size = 0 := by unfold room; rw [if_neg hg]
              have := hmp.2
              omega
            have hrs : room size = size - 24 := by unfold room; rw [if_pos hgs]
            have hbdy : bodyOf size (codeL l) = (zerosTo (codeL l) (size.toNat - 24), 0) := by
              unfold bodyOf
              rw [if_pos hgs, if_pos (by rw [codeL_len]; omega)]
            have hbody := fun K => body58 size vb (codeL l) (by omega) ⟨n1, h, a.next, []⟩ n1 (Nat.le_refl _) ho.rv K
            simp only [hbdy] at hbody
            simp -dsimp (maxSteps := 4000000) (disch := first | omega | assumption | (simp only [FB, Nat.reduceAdd]; done) | (simp only [LB]; omega)) only [EB, ↓reduceIte, WB, Nat.reduceSub, Nat.reduceAdd, Int.reduceEq, Int.reduceNe, Int.reduceLT, Int.reduceLE, Int.reduceAdd, Int.reduceSub, Int.reduceMul, Int.reduceNeg, Int.reduceToNat, Nat.reduceEqDiff, Nat.reduceLT, Nat.reduceLeDiff, Nat.reduceMul, List.replicate, reduceCtorEq, TB, NB, t0, t1, t2, t3, t8, t10, t36, t37, t38, show ¬ (l.length : Int) < l.length by omega, hbody, hpg, encP, noPage, hb]
            exact ⟨(by first | trivial | rfl | omega), (by first | trivial | rfl | omega)⟩
        · have hb : pageI size n tx l = (noPage, 2) := by unfold pageI; rw [if_neg fun h => h3 h.2.2.2]
          simp -dsimp (maxSteps := 4000000) (disch := first | omega | assumption | (simp only [FB, Nat.reduceAdd]; done) | (simp only [LB]; omega)) only [EB, ↓reduceIte, WB, Nat.reduceSub, Nat.reduceAdd, Int.reduceEq, Int.reduceNe, Int.reduceLT, Int.reduceLE, Int.reduceAdd, Int.reduceSub, Int.reduceMul, Int.reduceNeg, Int.reduceToNat, Nat.reduceEqDiff, Nat.reduceLT, Nat.reduceLeDiff, Nat.reduceMul, List.replicate, reduceCtorEq, TB, NB, hmay, h1, h2, h3, hsz, room40, number55, show ¬ room size < (sizeI l : Int) by omega, show (4611686018427387904 : Int) < tx by omega, hb, encP, noPage]
          exact ⟨(by first | trivial | rfl | omega), (by first | trivial | rfl | omega)⟩
      · have hb : pageI size n tx l = (noPage, 2) := by unfold pageI; rw [if_neg fun h => h2 h.2.2.1]
        simp -dsimp (maxSteps := 4000000) (disch := first | omega | assumption | (simp only [FB, Nat.reduceAdd]; done) | (simp only [LB]; omega)) only [EB, ↓reduceIte, WB, Nat.reduceSub, Nat.reduceAdd, Int.reduceEq, Int.reduceNe, Int.reduceLT, Int.reduceLE, Int.reduceAdd, Int.reduceSub, Int.reduceMul, Int.reduceNeg, Int.reduceToNat, Nat.reduceEqDiff, Nat.reduceLT, Nat.reduceLeDiff, Nat.reduceMul, List.replicate, reduceCtorEq, TB, NB, hmay, h1, h2, hsz, room40, number55, show ¬ room size < (sizeI l : Int) by omega, hb, encP, noPage]
        exact ⟨(by first | trivial | rfl | omega), (by first | trivial | rfl | omega)⟩
    · have hb : pageI size n tx l = (noPage, 2) := by unfold pageI; rw [if_neg fun h => hr h.2.1]
      simp -dsimp (maxSteps := 4000000) (disch := first | omega | assumption | (simp only [FB, Nat.reduceAdd]; done) | (simp only [LB]; omega)) only [EB, ↓reduceIte, WB, Nat.reduceSub, Nat.reduceAdd, Int.reduceEq, Int.reduceNe, Int.reduceLT, Int.reduceLE, Int.reduceAdd, Int.reduceSub, Int.reduceMul, Int.reduceNeg, Int.reduceToNat, Nat.reduceEqDiff, Nat.reduceLT, Nat.reduceLeDiff, Nat.reduceMul, List.replicate, reduceCtorEq, TB, NB, hmay, h1, hsz, room40, show room size < (sizeI l : Int) by omega, hb, encP, noPage]
      exact ⟨(by first | trivial | rfl | omega), (by first | trivial | rfl | omega)⟩
  · have hb : pageI size n tx l = (noPage, 2) := by unfold pageI; rw [if_neg fun h => h1 h.1]
    have h1' : mayI l = false := by simpa using h1
    simp -dsimp (maxSteps := 4000000) (disch := first | omega | assumption | (simp only [FB, Nat.reduceAdd]; done) | (simp only [LB]; omega)) only [EB, ↓reduceIte, WB, Nat.reduceSub, Nat.reduceAdd, Int.reduceEq, Int.reduceNe, Int.reduceLT, Int.reduceLE, Int.reduceAdd, Int.reduceSub, Int.reduceMul, Int.reduceNeg, Int.reduceToNat, Nat.reduceEqDiff, Nat.reduceLT, Nat.reduceLeDiff, Nat.reduceMul, List.replicate, reduceCtorEq, TB, NB, hmay, h1', hb, encP, noPage]
    exact ⟨(by first | trivial | rfl | omega), (by first | trivial | rfl | omega)⟩
end Go.Proofs.YtijmlgccaicblaaAM
