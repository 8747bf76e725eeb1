/- Chapter 6: what is written is read again. -/
import Derived.Test.YtpcaoohacgkeiaaP7
namespace Go.Proofs.YtpcaoohacgkeiaaAM
open Go Go.RowKit
set_option linter.unusedVariables false
set_option linter.unusedSimpArgs false
set_option maxRecDepth 10000
set_option maxHeartbeats 4000000

deriving instance DecidableEq for Bkt
theorem eqS36 {a a' : List UInt8} {b c b' c' : Int} : eqS Try.prog 36 #[.string (mkStr a), .int .u32 b, .int .i64 c] #[.string (mkStr a'), .int .u32 b', .int .i64 c'] =
    some (decide (a = a') && (decide (b = b') && decide (c = c'))) := by
  rw [eqS_key (L := [(false, 9, 0), (false, 22, 1), (false, 3, 2)]) ⟨_, rfl, by decide +kernel, by decide +kernel⟩]
  simp only [key_cons, key_nil, part_one agg3, part_one agg22, part_one agg9, List.getElem?_cons_zero, List.getElem?_cons_succ, Option.bind_some, eq_int und3, eq_int und22, eq_str und9, ite_and, Bool.and_true]
theorem bk_eq (b b' : Bkt) : (decide (b.name = b'.name) && (decide (b.root = b'.root) && decide (b.keys = b'.keys))) = decide (b = b') := by
  obtain ⟨a, b, c⟩ := b
  obtain ⟨a', b', c'⟩ := b'
  simp only [Bkt.mk.injEq, Bool.decide_and]
theorem neq36 {x y} {b b' : Bkt} : binA Try.prog .neq 36 x y (.agg (encB b).toArray) (.agg (encB b').toArray) = some (.bool (!decide (b = b'))) := by
  rw [← bk_eq]; exact bin_neq_agg rfl rfl (by decide +kernel) eqS36
theorem eql36 {x y} {b b' : Bkt} : binA Try.prog .eql 36 x y (.agg (encB b).toArray) (.agg (encB b').toArray) = some (.bool (decide (b = b'))) := by
  rw [← bk_eq]; exact bin_eql_agg rfl rfl (by decide +kernel) eqS36
theorem same12 (v u : Value) (l k : List Bkt) (hl : l.length ≤ 1000000) (a : AW) (m : Nat) (hm : m ≤ a.next) (hv : RV encB 3 a.heap m v l) (hu : RV encB 3 a.heap m u k) (K : Value → AW → Prop) :
    WCall Try.prog GV 12 [v, u] a K = K (.bool (decide (l = k))) a := by
  refine call_eq ?_ K
  rw [call_env Try.func12 rfl Try.ntmps12 rfl rfl (by simp)]
  obtain ⟨p, c, rfl⟩ := hv.len
  obtain ⟨p', c', rfl⟩ := hu.len
  by_cases hlen : l.length = k.length
  · simp -dsimp (maxSteps := 4000000) (disch := first | omega | assumption | (simp only [FB, Nat.reduceAdd]; done) | (simp only [LB]; omega)) only [EB, ↓reduceIte, WB, Nat.reduceSub, Nat.reduceAdd, Int.reduceEq, Int.reduceNe, Int.reduceLT, Int.reduceLE, Int.reduceAdd, Int.reduceSub, Int.reduceMul, Int.reduceNeg, Int.reduceToNat, Nat.reduceEqDiff, Nat.reduceLT, Nat.reduceLeDiff, Nat.reduceMul, List.replicate, reduceCtorEq, TB, NB, hlen]
    refine loop_inv (fun r t w => ∃ i n, ∃ e : Nat → Value, r = l.length - i ∧ i ≤ l.length ∧ w = ⟨n, a.heap, a.next, []⟩ ∧ a.next ≤ n ∧ t = TT 26 e ∧ (∀ j (h1 : j < l.length) (h2 : j < k.length), j < i → l[j] = k[j]) ∧ e 0 = .slice p k.length c ∧ e 1 = .slice p' k.length c' ∧ e 5 = .int .i64 i) ⟨0, a.next, _, rfl, by omega, rfl, Nat.le_refl _, rfl, fun j _ _ h => absurd h (by omega), rfl, rfl, rfl⟩ ?_
    rintro r t w ⟨i, n, e, rfl, hi, rfl, hn, rfl, hb, t0, t1, t5⟩
    by_cases hlt : i < l.length
    · have hlt2 : i < k.length := by omega
      obtain ⟨b, o, sp, rw0, cc, rfl, hlk, hbn, hle, hat, -⟩ := hv.at encB_len hlt
      obtain ⟨b', o', sp', rw0', cc', rfl, hlk', hbn', hle', hat', -⟩ := hu.at encB_len hlt2
      by_cases he : l[i] = k[i]
      · have hd := @neq36
        simp -dsimp (maxSteps := 4000000) (disch := first | omega | assumption | (simp only [FB, Nat.reduceAdd]; done) | (simp only [LB]; omega)) only [EB, ↓reduceIte, WB, Nat.reduceSub, Nat.reduceAdd, Int.reduceEq, Int.reduceNe, Int.reduceLT, Int.reduceLE, Int.reduceAdd, Int.reduceSub, Int.reduceMul, Int.reduceNeg, Int.reduceToNat, Nat.reduceEqDiff, Nat.reduceLT, Nat.reduceLeDiff, Nat.reduceMul, List.replicate, reduceCtorEq, TB, NB, t0, t1, t5, show (i : Int) < k.length by omega]
        refine code_draw [(0, 1), (0, 4), (0, 5), (0, 6), (0, 7), (1, 4), (1, 5), (1, 6), (1, 7), (2, 4), (2, 5), (2, 6), (2, 7), (3, 4), (3, 5), (3, 6), (3, 7), (4, 5)] (by decide +kernel) (by decide +kernel) ?_
        simp -dsimp (maxSteps := 4000000) (disch := first | omega | assumption | (simp only [FB, Nat.reduceAdd]; done) | (simp only [LB]; omega)) only [EB, ↓reduceIte, WB, Nat.reduceSub, Nat.reduceAdd, Int.reduceEq, Int.reduceNe, Int.reduceLT, Int.reduceLE, Int.reduceAdd, Int.reduceSub, Int.reduceMul, Int.reduceNeg, Int.reduceToNat, Nat.reduceEqDiff, Nat.reduceLT, Nat.reduceLeDiff, Nat.reduceMul, List.replicate, reduceCtorEq, RB, Nat.reduceEqDiff, TB, NB, t0, t1, t5, hlk, hlk', hat, hat', neq36, decide_eq_true he, wrap64, show b < n + 1 by omega, show b' < n + 1 by omega]
        refine ⟨l.length - (i + 1), by omega, i + 1, n + 1, _, rfl, by omega, (by first | trivial | rfl | omega), by omega, rfl, fun j h1 h2' hj => ?_, ?_⟩
        · have h2 : j < k.length := by omega
          rcases Nat.lt_or_ge j i with h | h
          · exact hb j h1 h2 h
          · obtain rfl : j = i := by omega
            exact he
        · simp only [ups_at, ↓reduceIte, Nat.reduceEqDiff]; exact ⟨t0, t1, (by first | trivial | rfl | omega)⟩
      · simp -dsimp (maxSteps := 4000000) (disch := first | omega | assumption | (simp only [FB, Nat.reduceAdd]; done) | (simp only [LB]; omega)) only [EB, ↓reduceIte, WB, Nat.reduceSub, Nat.reduceAdd, Int.reduceEq, Int.reduceNe, Int.reduceLT, Int.reduceLE, Int.reduceAdd, Int.reduceSub, Int.reduceMul, Int.reduceNeg, Int.reduceToNat, Nat.reduceEqDiff, Nat.reduceLT, Nat.reduceLeDiff, Nat.reduceMul, List.replicate, reduceCtorEq, TB, NB, t0, t1, t5, show (i : Int) < k.length by omega]
        refine code_draw [(0, 1), (0, 4), (0, 5), (0, 6), (0, 7), (1, 4), (1, 5), (1, 6), (1, 7), (2, 4), (2, 5), (2, 6), (2, 7), (3, 4), (3, 5), (3, 6), (3, 7), (4, 5)] (by decide +kernel) (by decide +kernel) ?_
        simp -dsimp (maxSteps := 4000000) (disch := first | omega | assumption | (simp only [FB, Nat.reduceAdd]; done) | (simp only [LB]; omega)) only [EB, ↓reduceIte, WB, Nat.reduceSub, Nat.reduceAdd, Int.reduceEq, Int.reduceNe, Int.reduceLT, Int.reduceLE, Int.reduceAdd, Int.reduceSub, Int.reduceMul, Int.reduceNeg, Int.reduceToNat, Nat.reduceEqDiff, Nat.reduceLT, Nat.reduceLeDiff, Nat.reduceMul, List.replicate, reduceCtorEq, RB, Nat.reduceEqDiff, TB, NB, t0, t1, t5, hlk, hlk', hat, hat', neq36, decide_eq_false he, wrap64, show b < n + 1 by omega, show b' < n + 1 by omega]
        rw [decide_eq_false fun h => he (by subst h; rfl)]
    · have hi2 : i = l.length := by omega
      have hlk : l = k := List.ext_getElem hlen fun j h1 h2 => hb j h1 h2 (by omega)
      simp -dsimp (maxSteps := 4000000) (disch := first | omega | assumption | (simp only [FB, Nat.reduceAdd]; done) | (simp only [LB]; omega)) only [EB, ↓reduceIte, WB, Nat.reduceSub, Nat.reduceAdd, Int.reduceEq, Int.reduceNe, Int.reduceLT, Int.reduceLE, Int.reduceAdd, Int.reduceSub, Int.reduceMul, Int.reduceNeg, Int.reduceToNat, Nat.reduceEqDiff, Nat.reduceLT, Nat.reduceLeDiff, Nat.reduceMul, List.replicate, reduceCtorEq, TB, NB, t0, t1, t5, show ¬ (i : Int) < k.length by omega]
      rw [decide_eq_true hlk]
      exact ⟨(by first | trivial | rfl | omega), (by first | trivial | rfl | omega)⟩
  · simp -dsimp (maxSteps := 4000000) (disch := first | omega | assumption | (simp only [FB, Nat.reduceAdd]; done) | (simp only [LB]; omega)) only [EB, ↓reduceIte, WB, Nat.reduceSub, Nat.reduceAdd, Int.reduceEq, Int.reduceNe, Int.reduceLT, Int.reduceLE, Int.reduceAdd, Int.reduceSub, Int.reduceMul, Int.reduceNeg, Int.reduceToNat, Nat.reduceEqDiff, Nat.reduceLT, Nat.reduceLeDiff, Nat.reduceMul, List.replicate, reduceCtorEq, TB, NB, show ¬ (l.length : Int) = k.length by omega]
    rw [decide_eq_false fun h => hlen (by rw [h])]
    exact ⟨(by first | trivial | rfl | omega), (by first | trivial | rfl | omega)⟩
def lightN (l : List Bkt) : Nat := (l.map fun b => min b.name.length 1000).sum
theorem lightN_take (l : List Bkt) (i : Nat) (h : i < l.length) : lightN (l.take (i + 1)) = lightN (l.take i) + min l[i].name.length 1000 := by
  unfold lightN
  rw [List.take_add_one, List.getElem?_eq_getElem h]
  simp only [Option.toList_some, List.map_append, List.map_cons, List.map_nil, List.sum_append, List.sum_cons, List.sum_nil, Nat.add_zero]
theorem lightN_le (l : List Bkt) : lightN l ≤ l.length * 1000 := by
  induction l with
  | nil => simp [lightN]
  | cons b l ih => simp only [lightN, List.map_cons, List.sum_cons, List.length_cons] at *; omega
theorem light9 (v : Value) (l : List Bkt) (hl : l.length ≤ 140737488355328) (a : AW) (m : Nat) (hm : m ≤ a.next) (hv : RV encB 3 a.heap m v l) (K : Value → AW → Prop) :
    WCall Try.prog GV 9 [v] a K = K (.bool (decide (l.length ≤ 60 ∧ lightN l ≤ 1000))) a := by
  refine call_eq ?_ K
  rw [call_env Try.func9 rfl Try.ntmps9 rfl rfl (by simp)]
  obtain ⟨p, c, rfl⟩ := hv.len
  simp -dsimp (maxSteps := 4000000) (disch := first | omega | assumption | (simp only [FB, Nat.reduceAdd]; done) | (simp only [LB]; omega)) only [EB, ↓reduceIte, WB, Nat.reduceSub, Nat.reduceAdd, Int.reduceEq, Int.reduceNe, Int.reduceLT, Int.reduceLE, Int.reduceAdd, Int.reduceSub, Int.reduceMul, Int.reduceNeg, Int.reduceToNat, Nat.reduceEqDiff, Nat.reduceLT, Nat.reduceLeDiff, Nat.reduceMul, List.replicate, reduceCtorEq, TB, NB, ]
  refine loop_inv (fun r t w => ∃ i, ∃ e : Nat → Value, r = l.length - i ∧ i ≤ l.length ∧ w = ⟨a.next, a.heap, a.next, []⟩ ∧ t = TT 27 e ∧ e 0 = .slice p l.length c ∧ e 3 = .int .i64 (lightN (l.take i)) ∧ e 4 = .int .i64 i) ⟨0, _, rfl, by omega, rfl, rfl, rfl, rfl, rfl⟩ ?_
  rintro r t w ⟨i, e, rfl, hi, rfl, rfl, t0, t3, t4⟩
  by_cases hlt : i < l.length
  · obtain ⟨b, o, sp, rw0, cc, rfl, hlk, hbn, hle, -, hk⟩ := hv.at encB_len hlt
    have h0 : cc[o + i * 3]? = some (.string (mkStr l[i].name)) := by have := hk 0 (by omega); simpa [encB] using this
    have hst := lightN_take l i hlt
    have hln := lightN_le (l.take i)
    rw [List.length_take] at hln
    simp -dsimp (maxSteps := 4000000) (disch := first | omega | assumption | (simp only [FB, Nat.reduceAdd]; done) | (simp only [LB]; omega)) only [EB, ↓reduceIte, WB, Nat.reduceSub, Nat.reduceAdd, Int.reduceEq, Int.reduceNe, Int.reduceLT, Int.reduceLE, Int.reduceAdd, Int.reduceSub, Int.reduceMul, Int.reduceNeg, Int.reduceToNat, Nat.reduceEqDiff, Nat.reduceLT, Nat.reduceLeDiff, Nat.reduceMul, List.replicate, reduceCtorEq, TB, NB, t0, t3, t4, show (i : Int) < l.length by omega, hlk, h0, wrap64]
    refine ⟨trivial, l.length - (i + 1), by omega, i + 1, _, rfl, by omega, (by first | trivial | rfl | omega), rfl, ?_⟩
    simp only [ups_at, ↓reduceIte, Nat.reduceEqDiff]
    refine ⟨t0, ?_, (by first | trivial | rfl | omega)⟩
    rw [hst]; congr 1; omega
  · obtain rfl : i = l.length := by omega
    rw [List.take_length] at t3
    by_cases h1 : (l.length : Int) ≤ 60
    · by_cases h2 : (lightN l : Int) ≤ 1000
      · simp -dsimp (maxSteps := 4000000) (disch := first | omega | assumption | (simp only [FB, Nat.reduceAdd]; done) | (simp only [LB]; omega)) only [EB, ↓reduceIte, WB, Nat.reduceSub, Nat.reduceAdd, Int.reduceEq, Int.reduceNe, Int.reduceLT, Int.reduceLE, Int.reduceAdd, Int.reduceSub, Int.reduceMul, Int.reduceNeg, Int.reduceToNat, Nat.reduceEqDiff, Nat.reduceLT, Nat.reduceLeDiff, Nat.reduceMul, List.replicate, reduceCtorEq, TB, NB, t0, t3, t4, show ¬ (l.length : Int) < l.length by omega, h1, h2]
        rw [decide_eq_true ⟨by omega, by omega⟩]
        exact ⟨(by first | trivial | rfl | omega), (by first | trivial | rfl | omega)⟩
      · simp -dsimp (maxSteps := 4000000) (disch := first | omega | assumption | (simp only [FB, Nat.reduceAdd]; done) | (simp only [LB]; omega)) only [EB, ↓reduceIte, WB, Nat.reduceSub, Nat.reduceAdd, Int.reduceEq, Int.reduceNe, Int.reduceLT, Int.reduceLE, Int.reduceAdd, Int.reduceSub, Int.reduceMul, Int.reduceNeg, Int.reduceToNat, Nat.reduceEqDiff, Nat.reduceLT, Nat.reduceLeDiff, Nat.reduceMul, List.replicate, reduceCtorEq, TB, NB, t0, t3, t4, show ¬ (l.length : Int) < l.length by omega, h1, h2]
        rw [decide_eq_false fun h => h2 (by omega)]
        exact ⟨(by first | trivial | rfl | omega), (by first | trivial | rfl | omega)⟩
    · simp -dsimp (maxSteps := 4000000) (disch := first | omega | assumption | (simp only [FB, Nat.reduceAdd]; done) | (simp only [LB]; omega)) only [EB, ↓reduceIte, WB, Nat.reduceSub, Nat.reduceAdd, Int.reduceEq, Int.reduceNe, Int.reduceLT, Int.reduceLE, Int.reduceAdd, Int.reduceSub, Int.reduceMul, Int.reduceNeg, Int.reduceToNat, Nat.reduceEqDiff, Nat.reduceLT, Nat.reduceLeDiff, Nat.reduceMul, List.replicate, reduceCtorEq, TB, NB, t0, t3, t4, show ¬ (l.length : Int) < l.length by omega, h1]
      rw [decide_eq_false fun h => h1 (by omega)]
      exact ⟨(by first | trivial | rfl | omega), (by first | trivial | rfl | omega)⟩
theorem numR_le (N k : Nat) (r : List UInt8) : numR (le N k ++ r) k = (N % 256 ^ k, r) := by
  unfold numR
  rw [if_neg (by rw [List.length_append, le_len]; omega)]
  rw [le_take, le_drop, leVal_le]
theorem bytR_app (s r : List UInt8) : bytR (s ++ r) s.length = (s, r) := by
  unfold bytR
  rw [if_neg (by rw [List.length_append]; omega), List.take_left, List.drop_left]
theorem rdB_code (b : Bkt) (h : oneOk b) (r : List UInt8) : rdB (codeB b ++ r) = (b, le b.keys.toNat 4 ++ r) := by
  obtain ⟨⟨h1, h2⟩, h3⟩ := h
  have hrk : 0 ≤ b.root ∧ b.root ≤ 2147483647 ∧ 0 ≤ b.keys ∧ b.keys ≤ 2147483647 := by
    rcases h3 with ⟨h1, h2⟩ | ⟨⟨h1, h2⟩, h3, h4⟩ <;> omega
  unfold rdB codeB
  simp only [List.append_assoc]
  rw [numR_le, Nat.mod_eq_of_lt (show b.name.length < 256 ^ 1 by omega)]
  simp only [bytR_app, numR_le]
  have e1 : ((b.root.toNat % 256 ^ 4 : Nat) : Int) = b.root := by
    rw [Nat.mod_eq_of_lt (by omega)]; omega
  have e2 : ((b.keys.toNat % 256 ^ 4 : Nat) : Int) = b.keys := by
    rw [Nat.mod_eq_of_lt (by omega)]; omega
  rw [e1, e2]
theorem decB_code : ∀ (l : List Bkt) (r : List UInt8), (∀ b ∈ l, oneOk b) → decB l.length (codeL l ++ r) = some l
  | [], r, _ => rfl
  | b :: l, r, h => by
    have e : codeL (b :: l) ++ r = codeB b ++ (codeL l ++ r) := by
      show (codeB b ++ codeL l) ++ r = _
      rw [List.append_assoc]
    rw [e, List.length_cons, decB, rdB_code b (h b (by simp))]
    have hl4 : (le b.keys.toNat 4).length = 4 := le_len _ _
    rw [if_neg (by simp only [List.length_append, hl4]; omega)]
    simp only [le_drop]
    rw [decB_code l r fun x hx => h x (by simp [hx])]
    rfl
theorem pageB_ok {size n tx : Int} {l : List Bkt} (h : (pageB size n tx l).2 = 0) : mayP size l ∧ numOk n ∧ tx ≤ 4611686018427387904 ∧ pageB size n tx l = (⟨2, l.length, n, 0, tx, zerosTo (codeL l) (size.toNat - 24)⟩, 0) := by
  by_cases hc : mayB size l = true ∧ numOk n ∧ tx ≤ 4611686018427387904
  · refine ⟨?_, hc.2.1, hc.2.2, by unfold pageB; rw [if_pos hc]⟩
    apply Classical.byContradiction
    intro hm
    rw [mayB_false hm] at hc
    cases hc.1
  · unfold pageB at h; rw [if_neg hc] at h; cases h
/-- What is written is read. -/
theorem of_page {size n tx : Int} {l : List Bkt} (h : (pageB size n tx l).2 = 0) : ofB (pageB size n tx l).1 = some l ∧ ((pageB size n tx l).1.body.length : Int) = size - 24 ∧ (pageB size n tx l).1.count = l.length := by
  obtain ⟨hm, h1, h2, he⟩ := pageB_ok h
  have hfit := may_fit hm
  have hlen : (zerosTo (codeL l) (size.toNat - 24)).length = size.toNat - 24 := by
    unfold zerosTo
    rw [List.length_append, List.length_replicate, codeL_len]
    omega
  have hb : ((pageB size n tx l).1.body.length : Int) = size - 24 := by rw [he]; simp only [hlen]; omega
  refine ⟨?_, hb, by rw [he]⟩
  unfold ofB
  have hc : (pageB size n tx l).1.count.toNat = l.length := by rw [he]; simp
  have hbd : (pageB size n tx l).1.body = codeL l ++ List.replicate (size.toNat - 24 - (codeL l).length) 0 := by rw [he]; rfl
  have hone : ∀ b ∈ l, oneOk b := by
    intro b hb
    obtain ⟨i, hi, rfl⟩ := List.mem_iff_getElem.1 hb
    exact (hm.1 i hi).1
  rw [hc, hbd, decB_code l _ hone, ← hbd]
  simp only
  have e1 : ((pageB size n tx l).1.body.length : Int) + 24 = size := by omega
  have e2 : (pageB size n tx l).1.page = n := by rw [he]
  have e3 : (pageB size n tx l).1.tx = tx := by rw [he]
  rw [e1, e2, e3, if_pos]
  rw [← h]
theorem of_more {p : Pg} {l : List Bkt} (h : ofB p = some l) : pageB (p.body.length + 24) p.page p.tx l = (p, 0) := by
  unfold ofB at h
  split at h
  · cases h
  · split at h
    · cases h; assumption
    · cases h
end Go.Proofs.YtpcaoohacgkeiaaAM
