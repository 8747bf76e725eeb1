/- Chapter 6: reading a catalog. -/
import Derived.Test.YtpcaoohacgkeiaaP6
namespace Go.Proofs.YtpcaoohacgkeiaaAM
open Go Go.RowKit
set_option linter.unusedVariables false
set_option linter.unusedSimpArgs false
set_option maxRecDepth 10000
set_option maxHeartbeats 4000000

def numR (s : List UInt8) (n : Nat) : Nat × List UInt8 := if s.length < n then (0, s) else (leVal (s.take n), s.drop n)
def bytR (s : List UInt8) (n : Nat) : List UInt8 × List UInt8 := if s.length < n then ([], s) else (s.take n, s.drop n)
theorem number34c (q : Nat) (s : List UInt8) (n : Nat) (hn1 : 1 ≤ n) (hn : n ≤ 8) (hs : s.length ≤ 1000000) (a : AW) (hq : look q a.heap = some (.cells [.string (mkStr s)] true)) (hqn : q < a.next) (hbq : a.base ≤ q) (K : Value → AW → Prop)
    (hK : ∀ h', look q h' = some (.cells [.string (mkStr (numR s n).2)] true) → (∀ j, j ≠ q → look j h' = look j a.heap) → K (.tuple #[.int .u64 (numR s n).1, .int .i64 (if s.length < n then 7 else 0)]) ⟨a.next, h', a.base, a.dirty⟩) :
    WCall Try.prog GV 34 [.pointer (some ⟨q, 0, none⟩), .int .i64 n] a K := by
  rw [number34 q s n hn1 hn hs a hq hqn]
  by_cases h : s.length < n
  · rw [if_pos h]
    have := hK a.heap (by rw [numR, if_pos h]; exact hq) fun _ _ => rfl
    rw [numR, if_pos h, if_pos h] at this
    exact this
  · rw [if_neg h, soilW_past hbq]
    have := hK (putAt q (.cells [.string (mkStr (s.drop n))] true) a.heap) (by rw [numR, if_neg h, look_wput_self, hq]; rfl) fun j hj => look_wput_ne hj
    rw [numR, if_neg h, if_neg h] at this
    exact this
theorem bytes35c (q : Nat) (s : List UInt8) (n : Nat) (hn : n ≤ 1000000) (hs : s.length ≤ 1000000) (a : AW) (hq : look q a.heap = some (.cells [.string (mkStr s)] true)) (hqn : q < a.next) (hbq : a.base ≤ q) (K : Value → AW → Prop)
    (hK : ∀ h', look q h' = some (.cells [.string (mkStr (bytR s n).2)] true) → (∀ j, j ≠ q → look j h' = look j a.heap) → K (.tuple #[.string (mkStr (bytR s n).1), .int .i64 (if s.length < n then 7 else 0)]) ⟨a.next, h', a.base, a.dirty⟩) :
    WCall Try.prog GV 35 [.pointer (some ⟨q, 0, none⟩), .int .i64 n] a K := by
  rw [bytes35 q s n hn hs a hq hqn]
  by_cases h : s.length < n
  · rw [if_pos h]
    have := hK a.heap (by rw [bytR, if_pos h]; exact hq) fun _ _ => rfl
    rw [bytR, if_pos h, if_pos h] at this
    exact this
  · rw [if_neg h, soilW_past hbq]
    have := hK (putAt q (.cells [.string (mkStr (s.drop n))] true) a.heap) (by rw [bytR, if_neg h, look_wput_self, hq]; rfl) fun j hj => look_wput_ne hj
    rw [bytR, if_neg h, if_neg h] at this
    exact this
theorem numR_len (s : List UInt8) (n : Nat) : (numR s n).2.length ≤ s.length ∧ (n ≤ s.length → (numR s n).2.length + n = s.length) := by
  unfold numR; split
  · exact ⟨Nat.le_refl _, by omega⟩
  · simp only [List.length_drop]; omega
theorem bytR_len (s : List UInt8) (n : Nat) : (bytR s n).2.length ≤ s.length ∧ (bytR s n).1.length ≤ s.length := by
  unfold bytR; split
  · exact ⟨Nat.le_refl _, by simp⟩
  · simp only [List.length_drop, List.length_take]; omega
theorem numR_lt (s : List UInt8) (n : Nat) : (numR s n).1 < 256 ^ n := by
  unfold numR; split
  · exact Nat.pow_pos (by decide)
  · have := leVal_lt (s.take n)
    rwa [List.length_take, Nat.min_eq_left (by omega)] at this
/-- A bucket, off the front of bytes: its parts and what is left. -/
def rdB (s : List UInt8) : Bkt × List UInt8 := (⟨(bytR (numR s 1).2 (numR s 1).1).1, (numR (bytR (numR s 1).2 (numR s 1).1).2 4).1, (numR (numR (bytR (numR s 1).2 (numR s 1).1).2 4).2 4).1⟩, (numR (bytR (numR s 1).2 (numR s 1).1).2 4).2)
def decB : Nat → List UInt8 → Option (List Bkt)
  | 0, _ => some []
  | c + 1, s => if (rdB s).2.length < 4 then none else (decB c ((rdB s).2.drop 4)).map ((rdB s).1 :: ·)
theorem rdB_len (s : List UInt8) (h : ¬ (rdB s).2.length < 4) : ((rdB s).2.drop 4).length + 5 ≤ s.length := by
  have h1 := numR_len s 1
  have h2 := bytR_len (numR s 1).2 (numR s 1).1
  have h3 := numR_len (bytR (numR s 1).2 (numR s 1).1).2 4
  simp only [rdB] at h ⊢
  rw [List.length_drop]
  by_cases h0 : 1 ≤ s.length
  · have := h1.2 h0; omega
  · omega
theorem dec_step (c : Nat) (s : List UInt8) (l : List Bkt) (h : ¬ (rdB s).2.length < 4) : (decB (c + 1) s).map (l ++ ·) = (decB c ((rdB s).2.drop 4)).map ((l ++ [(rdB s).1]) ++ ·) := by
  rw [decB, if_neg h]
  cases decB c ((rdB s).2.drop 4) <;> simp
deriving instance DecidableEq for Pg
/-- What a page's catalog is, if it is one. -/
noncomputable def ofB (p : Pg) : Option (List Bkt) := match decB p.count.toNat p.body with
  | none => none
  | some l => if pageB (p.body.length + 24) p.page p.tx l = (p, 0) then some l else none
theorem eqS26 {a b c d e a' b' c' d' e' : Int} {f f' : List UInt8} : eqS Try.prog 26 #[.int .i64 a, .int .i64 b, .int .u32 c, .int .u32 d, .int .u64 e, .string (mkStr f)] #[.int .i64 a', .int .i64 b', .int .u32 c', .int .u32 d', .int .u64 e', .string (mkStr f')] =
    some (decide (a = a') && (decide (b = b') && (decide (c = c') && (decide (d = d') && (decide (e = e') && decide (f = f')))))) := by
  rw [eqS_key (L := [(false, 3, 0), (false, 3, 1), (false, 22, 2), (false, 22, 3), (false, 23, 4), (false, 9, 5)]) ⟨_, rfl, by decide +kernel, by decide +kernel⟩]
  simp only [key_cons, key_nil, part_one agg3, part_one agg22, part_one agg23, part_one agg9, List.getElem?_cons_zero, List.getElem?_cons_succ, Option.bind_some, eq_int und3, eq_int und22, eq_int und23, eq_str und9, ite_and, Bool.and_true]
theorem pg_eq (p p' : Pg) : (decide (p.kind = p'.kind) && (decide (p.count = p'.count) && (decide (p.page = p'.page) && (decide (p.link = p'.link) && (decide (p.tx = p'.tx) && decide (p.body = p'.body)))))) = decide (p = p') := by
  obtain ⟨a, b, c, d, e, f⟩ := p
  obtain ⟨a', b', c', d', e', f'⟩ := p'
  simp only [Pg.mk.injEq, Bool.decide_and]
theorem neq26 {x y} {p p' : Pg} : binA Try.prog .neq 26 x y (.agg (encP p).toArray) (.agg (encP p').toArray) = some (.bool (!decide (p = p'))) := by
  rw [← pg_eq]; exact bin_neq_agg rfl rfl (by decide +kernel) eqS26
theorem eql26 {x y} {p p' : Pg} : binA Try.prog .eql 26 x y (.agg (encP p).toArray) (.agg (encP p').toArray) = some (.bool (decide (p = p'))) := by
  rw [← pg_eq]; exact bin_eql_agg rfl rfl (by decide +kernel) eqS26
theorem of11 (p : Pg) (hb : p.body.length ≤ 5000) (hc1 : -9223372036854775808 ≤ p.count) (hc2 : p.count ≤ 9223372036854775807) (a : AW) (K : Value → AW → Prop)
    (hK1 : ∀ l, ofB p = some l → ∀ v' n' h', a.next ≤ n' → n' ≤ a.next + 1 → OwnS encB 3 h' n' a.next v' l → (∀ j, j < a.next → look j h' = look j a.heap) → K (.tuple #[v', .int .i64 0]) ⟨n', h', a.base, a.dirty⟩)
    (hK2 : ofB p = none → K (.tuple #[.slice none 0 0, .int .i64 4]) a) :
    WCall Try.prog GV 11 [.agg (encP p).toArray] a K := by
  rw [call_env Try.func11 rfl Try.ntmps11 rfl rfl (by simp), encP]
  simp -dsimp (maxSteps := 4000000) (disch := first | omega | assumption | (simp only [FB, Nat.reduceAdd]; done) | (simp only [LB]; omega)) only [EB, ↓reduceIte, WB, Nat.reduceSub, Nat.reduceAdd, Int.reduceEq, Int.reduceNe, Int.reduceLT, Int.reduceLE, Int.reduceAdd, Int.reduceSub, Int.reduceMul, Int.reduceNeg, Int.reduceToNat, Nat.reduceEqDiff, Nat.reduceLT, Nat.reduceLeDiff, Nat.reduceMul, List.replicate, reduceCtorEq, TB, NB, new33]
  refine loop_inv (fun r t w => ∃ i n h q v s l, ∃ e : Nat → Value, r = p.count.toNat - i ∧ i ≤ p.count.toNat ∧ w = ⟨n, h, a.next, []⟩ ∧ a.next + 2 ≤ n ∧ (∀ j, j < a.next → look j h = look j a.heap) ∧ look a.next h = some (.cells (encP p) true) ∧ look (a.next + 1) h = some (.cells [.string (mkStr s)] true) ∧ t = TT 78 e ∧ OwnS encB 3 h n q v l ∧ a.next + 2 ≤ q ∧
    decB p.count.toNat p.body = (decB (p.count.toNat - i) s).map (l ++ ·) ∧ l.length * 5 + s.length ≤ p.body.length ∧ (∀ b ∈ l, b.name.length ≤ 5000) ∧
    e 1 = .pointer (some ⟨a.next, 0, none⟩) ∧ e 4 = .pointer (some ⟨a.next + 1, 0, none⟩) ∧ e 5 = v ∧ e 20 = .int .i64 p.count ∧ e 21 = .int .i64 i)
    ⟨0, a.next + 2, _, a.next + 2, _, p.body, [], _, rfl, by omega, rfl, Nat.le_refl _, fun j hj => by rw [look_miss (by omega), look_miss (by omega)], by rw [look_miss (by omega)]; exact look_self, look_self, rfl, OwnS.nil, Nat.le_refl _, by cases decB (p.count.toNat - 0) p.body <;> simp, by simp, by simp, rfl, rfl, rfl, rfl, rfl⟩ ?_
  rintro r t w ⟨i, n, h, q, v, s, l, e, rfl, hi, rfl, hn, hh, hpg, hrd, rfl, ho, hq, hdec, hlen, hnm, t1, t4, t5, t20, t21⟩
  by_cases hlt : (i : Int) < p.count
  · simp -dsimp (maxSteps := 4000000) (disch := first | omega | assumption | (simp only [FB, Nat.reduceAdd]; done) | (simp only [LB]; omega)) only [EB, ↓reduceIte, WB, Nat.reduceSub, Nat.reduceAdd, Int.reduceEq, Int.reduceNe, Int.reduceLT, Int.reduceLE, Int.reduceAdd, Int.reduceSub, Int.reduceMul, Int.reduceNeg, Int.reduceToNat, Nat.reduceEqDiff, Nat.reduceLT, Nat.reduceLeDiff, Nat.reduceMul, List.replicate, reduceCtorEq, TB, NB, t1, t4, t5, t20, t21, hlt]
    refine number34c (a.next + 1) s 1 (by omega) (by omega) (by omega) ⟨n, h, a.next, []⟩ hrd (by simp only; omega) (by simp only; omega) _ fun h1 x1 y1 => ?_
    have l1 := numR_len s 1
    have b1 := numR_lt s 1
    simp -dsimp (maxSteps := 4000000) (disch := first | omega | assumption | (simp only [FB, Nat.reduceAdd]; done) | (simp only [LB]; omega)) only [EB, ↓reduceIte, WB, Nat.reduceSub, Nat.reduceAdd, Int.reduceEq, Int.reduceNe, Int.reduceLT, Int.reduceLE, Int.reduceAdd, Int.reduceSub, Int.reduceMul, Int.reduceNeg, Int.reduceToNat, Nat.reduceEqDiff, Nat.reduceLT, Nat.reduceLeDiff, Nat.reduceMul, List.replicate, reduceCtorEq, TB, NB, t4, wrap64]
    have l2 := bytR_len (numR s 1).2 (numR s 1).1
    refine bytes35c (a.next + 1) _ (numR s 1).1 (by omega) (by omega) ⟨n, h1, a.next, []⟩ x1 (by simp only; omega) (by simp only; omega) _ fun h2 x2 y2 => ?_
    simp -dsimp (maxSteps := 4000000) (disch := first | omega | assumption | (simp only [FB, Nat.reduceAdd]; done) | (simp only [LB]; omega)) only [EB, ↓reduceIte, WB, Nat.reduceSub, Nat.reduceAdd, Int.reduceEq, Int.reduceNe, Int.reduceLT, Int.reduceLE, Int.reduceAdd, Int.reduceSub, Int.reduceMul, Int.reduceNeg, Int.reduceToNat, Nat.reduceEqDiff, Nat.reduceLT, Nat.reduceLeDiff, Nat.reduceMul, List.replicate, reduceCtorEq, TB, NB, t4]
    refine number34c (a.next + 1) _ 4 (by omega) (by omega) (by omega) ⟨n, h2, a.next, []⟩ x2 (by simp only; omega) (by simp only; omega) _ fun h3 x3 y3 => ?_
    have l3 := numR_len (bytR (numR s 1).2 (numR s 1).1).2 4
    have b3 := numR_lt (bytR (numR s 1).2 (numR s 1).1).2 4
    simp -dsimp (maxSteps := 4000000) (disch := first | omega | assumption | (simp only [FB, Nat.reduceAdd]; done) | (simp only [LB]; omega)) only [EB, ↓reduceIte, WB, Nat.reduceSub, Nat.reduceAdd, Int.reduceEq, Int.reduceNe, Int.reduceLT, Int.reduceLE, Int.reduceAdd, Int.reduceSub, Int.reduceMul, Int.reduceNeg, Int.reduceToNat, Nat.reduceEqDiff, Nat.reduceLT, Nat.reduceLeDiff, Nat.reduceMul, List.replicate, reduceCtorEq, TB, NB, t4]
    refine number34c (a.next + 1) _ 4 (by omega) (by omega) (by omega) ⟨n, h3, a.next, []⟩ x3 (by simp only; omega) (by simp only; omega) _ fun h4 x4 y4 => ?_
    have b4 := numR_lt (numR (bytR (numR s 1).2 (numR s 1).1).2 4).2 4
    have hci : p.count.toNat - i = (p.count.toNat - (i + 1)) + 1 := by omega
    by_cases hs : (rdB s).2.length < 4
    · have hs' : (numR (bytR (numR s 1).2 (numR s 1).1).2 4).2.length < 4 := hs
      simp only [hs', if_true]
      simp -dsimp (maxSteps := 4000000) (disch := first | omega | assumption | (simp only [FB, Nat.reduceAdd]; done) | (simp only [LB]; omega)) only [EB, ↓reduceIte, WB, Nat.reduceSub, Nat.reduceAdd, Int.reduceEq, Int.reduceNe, Int.reduceLT, Int.reduceLE, Int.reduceAdd, Int.reduceSub, Int.reduceMul, Int.reduceNeg, Int.reduceToNat, Nat.reduceEqDiff, Nat.reduceLT, Nat.reduceLeDiff, Nat.reduceMul, List.replicate, reduceCtorEq, TB, NB, t5]
      rw [leave_flat rfl]
      refine hK2 ?_
      unfold ofB
      rw [hdec, hci, decB, if_pos hs]; rfl
    · have hs' : ¬ (numR (bytR (numR s 1).2 (numR s 1).1).2 4).2.length < 4 := hs
      simp only [hs', if_false]
      simp -dsimp (maxSteps := 4000000) (disch := first | omega | assumption | (simp only [FB, Nat.reduceAdd]; done) | (simp only [LB]; omega)) only [EB, ↓reduceIte, WB, Nat.reduceSub, Nat.reduceAdd, Int.reduceEq, Int.reduceNe, Int.reduceLT, Int.reduceLE, Int.reduceAdd, Int.reduceSub, Int.reduceMul, Int.reduceNeg, Int.reduceToNat, Nat.reduceEqDiff, Nat.reduceLT, Nat.reduceLeDiff, Nat.reduceMul, List.replicate, reduceCtorEq, TB, NB, t5, wrap64, wrapu32]
      have hcell : look n ((n, Blk.cells (encB (rdB s).1) true) :: h4) = some (.cells (encB (rdB s).1) true) := look_self
      have ho4 : OwnS encB 3 ((n, Blk.cells (encB (rdB s).1) true) :: h4) (n + 1) q v l := ho.keep (by omega) fun hqn => by
        rw [look_miss (by omega), y4 q (by omega), y3 q (by omega), y2 q (by omega), y1 q (by omega)]
      have hll : l.length ≤ 1000 := by omega
      obtain ⟨v2, q2, n2, h6, e2, o2, f1, f2, f3, f4, f5⟩ := append_mine (E := Try.prog) (t0 := 24) (t1 := 24) (bs := a.next) (d := []) app24 encB_len encB_one ho4 (by omega) (by omega) (RV.one (n := n + 1) (x := (rdB s).1) encB_len hcell (by omega)) (by simp only [List.length_cons, List.length_nil]; omega)
      have e2' := e2
      simp only [encB, rdB] at e2'
      rw [e2']
      simp -dsimp (maxSteps := 4000000) (disch := first | omega | assumption | (simp only [FB, Nat.reduceAdd]; done) | (simp only [LB]; omega)) only [EB, ↓reduceIte, WB, Nat.reduceSub, Nat.reduceAdd, Int.reduceEq, Int.reduceNe, Int.reduceLT, Int.reduceLE, Int.reduceAdd, Int.reduceSub, Int.reduceMul, Int.reduceNeg, Int.reduceToNat, Nat.reduceEqDiff, Nat.reduceLT, Nat.reduceLeDiff, Nat.reduceMul, List.replicate, reduceCtorEq, TB, NB, t21, wrap64]
      have hrl := rdB_len s hs
      refine ⟨trivial, p.count.toNat - (i + 1), by omega, i + 1, n2, h6, q2, v2, (rdB s).2.drop 4, l ++ [(rdB s).1], _, rfl, by omega, rfl, by omega, fun j hj => ?_, ?_, ?_, rfl, o2, by omega, ?_, ?_, ?_, ?_⟩
      · rw [f5 j (by omega) (by omega), look_miss (by omega), y4 j (by omega), y3 j (by omega), y2 j (by omega), y1 j (by omega), hh j hj]
      · rw [f5 _ (by omega) (by omega), look_miss (by omega), y4 _ (by omega), y3 _ (by omega), y2 _ (by omega), y1 _ (by omega), hpg]
      · rw [f5 _ (by omega) (by omega), look_miss (by omega), x4, numR, if_neg hs']; rfl
      · rw [hdec, hci]; exact dec_step _ _ _ hs
      · simp only [List.length_append, List.length_cons, List.length_nil]; omega
      · intro b hb'
        rcases List.mem_append.1 hb' with hb' | hb'
        · exact hnm b hb'
        · simp only [List.mem_singleton] at hb'
          subst hb'
          simp only [rdB]; omega
      · simp only [ups_at, ↓reduceIte, Nat.reduceEqDiff]
        exact ⟨t1, t4, trivial, t20, (by first | trivial | rfl | omega)⟩
  · have hi2 : p.count.toNat - i = 0 := by omega
    rw [hi2] at hdec
    have hdec' : decB p.count.toNat p.body = some l := by rw [hdec]; simp [decB]
    have hpc := fun K => page10 (p.body.length + 24) p.page p.tx v l (by omega) (fun b hb' => by have := hnm b hb'; omega) ⟨n, h, a.next, []⟩ n (Nat.le_refl _) ho.rv K
    have hpg2 : look a.next h = some (.cells [.int .i64 p.kind, .int .i64 p.count, .int .u32 p.page, .int .u32 p.link, .int .u64 p.tx, .string (mkStr p.body)] true) := hpg
    obtain ⟨X, hX⟩ : ∃ X, X = pageB (p.body.length + 24) p.page p.tx l := ⟨_, rfl⟩
    rw [← hX] at hpc
    have hofn : X ≠ (p, 0) → ofB p = none := fun hne => by
      unfold ofB; rw [hdec']; simp only; rw [if_neg (by rw [← hX]; exact hne)]
    have hneq : ∀ x y, binA Try.prog .neq 26 x y (.agg (encP X.1).toArray) (.agg #[.int .i64 p.kind, .int .i64 p.count, .int .u32 p.page, .int .u32 p.link, .int .u64 p.tx, .string (mkStr p.body)]) = some (.bool (!decide (X.1 = p))) := fun x y => neq26
    simp only [encP] at hpc hneq
    by_cases h2 : X.2 = 0
    · by_cases h1 : X.1 = p
      · have hof : ofB p = some l := by
          unfold ofB; rw [hdec']; simp only; rw [if_pos (by rw [← hX, ← h1, ← h2])]
        simp -dsimp (maxSteps := 4000000) (disch := first | omega | assumption | (simp only [FB, Nat.reduceAdd]; done) | (simp only [LB]; omega)) only [EB, ↓reduceIte, WB, Nat.reduceSub, Nat.reduceAdd, Int.reduceEq, Int.reduceNe, Int.reduceLT, Int.reduceLE, Int.reduceAdd, Int.reduceSub, Int.reduceMul, Int.reduceNeg, Int.reduceToNat, Nat.reduceEqDiff, Nat.reduceLT, Nat.reduceLeDiff, Nat.reduceMul, List.replicate, reduceCtorEq, TB, NB, t1, t4, t5, t20, t21, hlt, hpg2, wrap64, hpc, h2, hneq, decide_eq_true h1, show a.next ≠ n by omega]
        exact leave_own2 encB_flat rfl (ho.keep (by omega) fun hq' => by first | exact look_miss (by omega) | rfl) (by omega) fun v' n' h' x1 x2 x3 x4 _ => hK1 l hof v' n' h' x1 x2 x3 x4
      · simp -dsimp (maxSteps := 4000000) (disch := first | omega | assumption | (simp only [FB, Nat.reduceAdd]; done) | (simp only [LB]; omega)) only [EB, ↓reduceIte, WB, Nat.reduceSub, Nat.reduceAdd, Int.reduceEq, Int.reduceNe, Int.reduceLT, Int.reduceLE, Int.reduceAdd, Int.reduceSub, Int.reduceMul, Int.reduceNeg, Int.reduceToNat, Nat.reduceEqDiff, Nat.reduceLT, Nat.reduceLeDiff, Nat.reduceMul, List.replicate, reduceCtorEq, TB, NB, t1, t4, t5, t20, t21, hlt, hpg2, wrap64, hpc, h2, hneq, decide_eq_false h1, show a.next ≠ n by omega]
        rw [leave_flat rfl]
        exact hK2 (hofn fun e => h1 (by rw [e]))
    · simp -dsimp (maxSteps := 4000000) (disch := first | omega | assumption | (simp only [FB, Nat.reduceAdd]; done) | (simp only [LB]; omega)) only [EB, ↓reduceIte, WB, Nat.reduceSub, Nat.reduceAdd, Int.reduceEq, Int.reduceNe, Int.reduceLT, Int.reduceLE, Int.reduceAdd, Int.reduceSub, Int.reduceMul, Int.reduceNeg, Int.reduceToNat, Nat.reduceEqDiff, Nat.reduceLT, Nat.reduceLeDiff, Nat.reduceMul, List.replicate, reduceCtorEq, TB, NB, t1, t4, t5, t20, t21, hlt, hpg2, wrap64, hpc, h2, show a.next ≠ n by omega]
      rw [leave_flat rfl]
      exact hK2 (hofn fun e => h2 (by rw [e]))
end Go.Proofs.YtpcaoohacgkeiaaAM
