/- Chapter 26: small functions. -/
import Derived.Test.YtdgpniekpmoadaaK2
namespace Go.Proofs.YtdgpniekpmoadaaAM
open Go Go.RowKit
set_option linter.unusedVariables false
set_option linter.unusedSimpArgs false
set_option maxRecDepth 10000
set_option maxHeartbeats 4000000

/-- What is known of calls that ask nothing: the chapter's example. -/
def kLives : Known := ⟨8, #[], .bool true⟩
theorem lives_holds : kLives.Holds Try.prog :=
  known_more mixed plain (l := []) (by intro k hk; cases hk) Try.func8 (by kernel_rfl) (n := 10000) rfl rfl (by kernel_rfl)
theorem known_all : ∀ k ∈ [kLives], k.Holds Try.prog := by
  intro k hk
  simp only [List.mem_singleton] at hk
  subst hk
  exact lives_holds
def GV : Gives := withKeys 26 31 svStr (memo [kLives])
theorem given_ok : GV.Sound Try.prog := keys_sound (Go.Proofs.enters_of Try.func26 (by kernel_rfl) rfl) keys_say svStr_same (memo_sound plain known_all)
theorem lives8 (a : AW) (K) : WCall Try.prog GV 8 [] a K = K (.bool true) a := call_given rfl
theorem one_four {v u w x : Value} : oneOf [v, u, w, x] = .tuple #[v, u, w, x] := rfl
def pickN (x m : Int) : Int := if m < 1 then 0 else if x.tmod m < 0 then x.tmod m + m else x.tmod m
theorem pickN_bd (x m : Int) (hm : 1 ≤ m) : 0 ≤ pickN x m ∧ pickN x m < m := by
  unfold pickN
  have hlo := Int.lt_tmod_of_pos x (show 0 < m by omega)
  have hhi := Int.tmod_lt_of_pos x (show 0 < m by omega)
  rw [if_neg (by omega)]
  split <;> omega
theorem pick16 (x m : Int) (hx : -9223372036854775808 ≤ x ∧ x ≤ 9223372036854775807) (hm : m ≤ 1000000) (a : AW) (K) : WCall Try.prog GV 16 [.int .i64 x, .int .i64 m] a K = K (.int .i64 (pickN x m)) a := by
  rw [call_body' Try.func16 rfl Try.ntmps16 rfl rfl]
  unfold pickN
  by_cases h1 : m < 1
  · simp -dsimp (maxSteps := 4000000) (disch := first | omega | assumption | (simp only [FB, Nat.reduceAdd]; done) | (simp only [LB]; omega)) only [WB, Nat.reduceSub, Nat.reduceAdd, Int.reduceEq, Int.reduceNe, Int.reduceLT, Int.reduceLE, Int.reduceAdd, Int.reduceSub, Int.reduceMul, Int.reduceNeg, Int.reduceToNat, Nat.reduceEqDiff, Nat.reduceLT, Nat.reduceLeDiff, Nat.reduceMul, List.replicate, reduceCtorEq, TB, NB, MB, h1]
    simp [h1]
  · have hlo := Int.lt_tmod_of_pos x (show 0 < m by omega)
    have hhi := Int.tmod_lt_of_pos x (show 0 < m by omega)
    by_cases h2 : x.tmod m < 0
    · simp -dsimp (maxSteps := 4000000) (disch := first | omega | assumption | (simp only [FB, Nat.reduceAdd]; done) | (simp only [LB]; omega)) only [WB, Nat.reduceSub, Nat.reduceAdd, Int.reduceEq, Int.reduceNe, Int.reduceLT, Int.reduceLE, Int.reduceAdd, Int.reduceSub, Int.reduceMul, Int.reduceNeg, Int.reduceToNat, Nat.reduceEqDiff, Nat.reduceLT, Nat.reduceLeDiff, Nat.reduceMul, List.replicate, reduceCtorEq, TB, NB, MB, h1, h2, wrap64]
      simp
    · simp -dsimp (maxSteps := 4000000) (disch := first | omega | assumption | (simp only [FB, Nat.reduceAdd]; done) | (simp only [LB]; omega)) only [WB, Nat.reduceSub, Nat.reduceAdd, Int.reduceEq, Int.reduceNe, Int.reduceLT, Int.reduceLE, Int.reduceAdd, Int.reduceSub, Int.reduceMul, Int.reduceNeg, Int.reduceToNat, Nat.reduceEqDiff, Nat.reduceLT, Nat.reduceLeDiff, Nat.reduceMul, List.replicate, reduceCtorEq, TB, NB, MB, h1, h2]
      simp
/-- A pair. -/
structure Pr where
  key : List UInt8
  val : List UInt8
deriving DecidableEq
instance : Inhabited Pr := ⟨⟨[], []⟩⟩
def encPr (x : Pr) : List Value := [.string (mkStr x.key), .string (mkStr x.val)]
theorem encPr_len (b : Pr) : (encPr b).length = 2 := rfl
theorem encPr_one (b : Pr) : (encPr b).all Value.oneCell' = true := rfl
theorem encPr_flat (b : Pr) : (encPr b).all flat = true := rfl
/-- An orphan. -/
structure Or' where
  page : Int
  slot : Int
  key : List UInt8
  val : List UInt8
instance : Inhabited Or' := ⟨⟨0, 0, [], []⟩⟩
def encO (x : Or') : List Value := [.int .u32 x.page, .int .i64 x.slot, .string (mkStr x.key), .string (mkStr x.val)]
theorem encO_len (b : Or') : (encO b).length = 4 := rfl
theorem encO_one (b : Or') : (encO b).all Value.oneCell' = true := rfl
theorem encO_flat (b : Or') : (encO b).all flat = true := rfl
def lightP (l : List Pr) : Nat := (l.map fun x => x.key.length + x.val.length).sum
theorem lightP_take (l : List Pr) (i : Nat) (h : i < l.length) : lightP (l.take (i + 1)) = lightP (l.take i) + (l[i].key.length + l[i].val.length) := by
  unfold lightP
  rw [List.take_add_one, List.getElem?_eq_getElem h]
  simp only [Option.toList_some, List.map_append, List.map_cons, List.map_nil, List.sum_append, List.sum_cons, List.sum_nil, Nat.add_zero]
theorem lightP_upto (l : List Pr) (i : Nat) : lightP (l.take i) ≤ lightP l := by
  have e : lightP l = lightP (l.take i) + lightP (l.drop i) := by
    unfold lightP
    rw [← List.sum_append, ← List.map_append, List.take_append_drop]
  omega
theorem lightP_mem (l : List Pr) {x : Pr} (h : x ∈ l) : x.key.length + x.val.length ≤ lightP l := by
  obtain ⟨i, hi, rfl⟩ := List.mem_iff_getElem.1 h
  have := lightP_take l i hi
  have := lightP_upto l (i + 1)
  omega
theorem light24 (v : Value) (l : List Pr) (most bytes : Nat) (hmo : most ≤ 10000) (hby : bytes ≤ 1000000) (hl : l.length ≤ 140737488355328) (hx : ∀ x ∈ l, x.key.length ≤ 140737488355328 ∧ x.val.length ≤ 140737488355328) (a : AW) (m : Nat) (hm : m ≤ a.next) (hv : RV encPr 2 a.heap m v l) (K : Value → AW → Prop) :
    WCall Try.prog GV 24 [v, .int .i64 most, .int .i64 bytes] a K = K (.bool (decide (l.length ≤ most ∧ lightP l ≤ bytes))) a := by
  refine call_eq ?_ K
  rw [call_env Try.func24 rfl Try.ntmps24 rfl rfl (by simp)]
  obtain ⟨p, c, rfl⟩ := hv.len
  by_cases hlen : l.length ≤ most
  · simp -dsimp (maxSteps := 4000000) (disch := first | omega | assumption | (simp only [FB, Nat.reduceAdd]; done) | (simp only [LB]; omega)) only [EB, ↓reduceIte, WB, Nat.reduceSub, Nat.reduceAdd, Int.reduceEq, Int.reduceNe, Int.reduceLT, Int.reduceLE, Int.reduceAdd, Int.reduceSub, Int.reduceMul, Int.reduceNeg, Int.reduceToNat, Nat.reduceEqDiff, Nat.reduceLT, Nat.reduceLeDiff, Nat.reduceMul, List.replicate, reduceCtorEq, TB, NB, MB, show ¬ (most : Int) < l.length by omega]
    refine loop_inv (fun r t w => ∃ i n, ∃ e : Nat → Value, r = l.length - i ∧ i ≤ l.length ∧ w = ⟨n, a.heap, a.next, []⟩ ∧ a.next ≤ n ∧ t = TT 37 e ∧ lightP (l.take i) ≤ bytes ∧ e 0 = .slice p l.length c ∧ e 2 = .int .i64 bytes ∧ e 7 = .int .i64 (lightP (l.take i)) ∧ e 8 = .int .i64 i) ⟨0, a.next, _, rfl, by omega, rfl, Nat.le_refl _, rfl, Nat.zero_le _, rfl, rfl, rfl, rfl⟩ ?_
    rintro r t w ⟨i, n, e, rfl, hi, rfl, hn, rfl, hby2, t0, t2, t7, t8⟩
    by_cases hlt : i < l.length
    · obtain ⟨b, o, sp, rw0, cc, rfl, hlk, hbn, hle, hat, hkk⟩ := hv.at encPr_len hlt
      have hxi := hx l[i] (List.getElem_mem hlt)
      have k0 : cc[o + i * 2]? = some (.string (mkStr l[i].key)) := by have := hkk 0 (by omega); simpa [encPr] using this
      have k1 : cc[o + (i * 2 + 1)]? = some (.string (mkStr l[i].val)) := by have := hkk 1 (by omega); rw [← Nat.add_assoc]; simpa [encPr] using this
      have hst := lightP_take l i hlt
      have hup := lightP_upto l (i + 1)
      by_cases hb : lightP (l.take (i + 1)) ≤ bytes
      · simp -dsimp (maxSteps := 4000000) (disch := first | omega | assumption | (simp only [FB, Nat.reduceAdd]; done) | (simp only [LB]; omega)) only [EB, ↓reduceIte, WB, Nat.reduceSub, Nat.reduceAdd, Int.reduceEq, Int.reduceNe, Int.reduceLT, Int.reduceLE, Int.reduceAdd, Int.reduceSub, Int.reduceMul, Int.reduceNeg, Int.reduceToNat, Nat.reduceEqDiff, Nat.reduceLT, Nat.reduceLeDiff, Nat.reduceMul, List.replicate, reduceCtorEq, TB, NB, MB, t0, t2, t7, t8, show (i : Int) < l.length by omega]
        refine code_draw [(0, 1), (0, 2), (0, 3), (0, 4), (0, 5), (0, 6), (0, 8), (0, 9), (0, 10), (0, 11), (0, 12), (0, 13), (1, 2), (1, 8), (1, 9), (1, 10), (1, 11), (1, 12), (1, 13), (2, 8), (2, 9), (2, 10), (2, 11), (2, 12), (2, 13), (3, 8), (3, 9), (3, 10), (3, 11), (3, 12), (3, 13), (4, 8), (4, 9), (4, 10), (4, 11), (4, 12), (4, 13), (5, 8), (5, 9), (5, 10), (5, 11), (5, 12), (5, 13), (6, 8), (6, 9), (6, 10), (6, 11), (6, 12), (6, 13), (7, 8), (7, 9), (7, 10), (7, 11), (7, 12), (7, 13), (8, 9)] (by decide +kernel) (by decide +kernel) ?_
        simp -dsimp (maxSteps := 4000000) (disch := first | omega | assumption | (simp only [FB, Nat.reduceAdd]; done) | (simp only [LB]; omega)) only [EB, ↓reduceIte, WB, Nat.reduceSub, Nat.reduceAdd, Int.reduceEq, Int.reduceNe, Int.reduceLT, Int.reduceLE, Int.reduceAdd, Int.reduceSub, Int.reduceMul, Int.reduceNeg, Int.reduceToNat, Nat.reduceEqDiff, Nat.reduceLT, Nat.reduceLeDiff, Nat.reduceMul, List.replicate, reduceCtorEq, RB, Nat.reduceEqDiff, TB, NB, MB, t0, t2, t7, t8, hlk, k0, k1, wrap64, show b < n + 1 by omega, show ¬ (bytes : Int) < (lightP (l.take i) : Int) + l[i].key.length + l[i].val.length by omega]
        refine ⟨l.length - (i + 1), by omega, i + 1, n + 1, _, rfl, by omega, (by first | trivial | rfl | omega), by omega, rfl, hb, ?_⟩
        simp only [ups_at, ↓reduceIte, Nat.reduceEqDiff]; exact ⟨t0, t2, by rw [hst]; congr 1; omega, (by first | trivial | rfl | omega)⟩
      · simp -dsimp (maxSteps := 4000000) (disch := first | omega | assumption | (simp only [FB, Nat.reduceAdd]; done) | (simp only [LB]; omega)) only [EB, ↓reduceIte, WB, Nat.reduceSub, Nat.reduceAdd, Int.reduceEq, Int.reduceNe, Int.reduceLT, Int.reduceLE, Int.reduceAdd, Int.reduceSub, Int.reduceMul, Int.reduceNeg, Int.reduceToNat, Nat.reduceEqDiff, Nat.reduceLT, Nat.reduceLeDiff, Nat.reduceMul, List.replicate, reduceCtorEq, TB, NB, MB, t0, t2, t7, t8, show (i : Int) < l.length by omega]
        refine code_draw [(0, 1), (0, 2), (0, 3), (0, 4), (0, 5), (0, 6), (0, 8), (0, 9), (0, 10), (0, 11), (0, 12), (0, 13), (1, 2), (1, 8), (1, 9), (1, 10), (1, 11), (1, 12), (1, 13), (2, 8), (2, 9), (2, 10), (2, 11), (2, 12), (2, 13), (3, 8), (3, 9), (3, 10), (3, 11), (3, 12), (3, 13), (4, 8), (4, 9), (4, 10), (4, 11), (4, 12), (4, 13), (5, 8), (5, 9), (5, 10), (5, 11), (5, 12), (5, 13), (6, 8), (6, 9), (6, 10), (6, 11), (6, 12), (6, 13), (7, 8), (7, 9), (7, 10), (7, 11), (7, 12), (7, 13), (8, 9)] (by decide +kernel) (by decide +kernel) ?_
        simp -dsimp (maxSteps := 4000000) (disch := first | omega | assumption | (simp only [FB, Nat.reduceAdd]; done) | (simp only [LB]; omega)) only [EB, ↓reduceIte, WB, Nat.reduceSub, Nat.reduceAdd, Int.reduceEq, Int.reduceNe, Int.reduceLT, Int.reduceLE, Int.reduceAdd, Int.reduceSub, Int.reduceMul, Int.reduceNeg, Int.reduceToNat, Nat.reduceEqDiff, Nat.reduceLT, Nat.reduceLeDiff, Nat.reduceMul, List.replicate, reduceCtorEq, RB, Nat.reduceEqDiff, TB, NB, MB, t0, t2, t7, t8, hlk, k0, k1, wrap64, show b < n + 1 by omega, show (bytes : Int) < (lightP (l.take i) : Int) + l[i].key.length + l[i].val.length by omega]
        rw [decide_eq_false fun h => by omega]
    · obtain rfl : i = l.length := by omega
      rw [List.take_length] at hby2
      simp -dsimp (maxSteps := 4000000) (disch := first | omega | assumption | (simp only [FB, Nat.reduceAdd]; done) | (simp only [LB]; omega)) only [EB, ↓reduceIte, WB, Nat.reduceSub, Nat.reduceAdd, Int.reduceEq, Int.reduceNe, Int.reduceLT, Int.reduceLE, Int.reduceAdd, Int.reduceSub, Int.reduceMul, Int.reduceNeg, Int.reduceToNat, Nat.reduceEqDiff, Nat.reduceLT, Nat.reduceLeDiff, Nat.reduceMul, List.replicate, reduceCtorEq, TB, NB, MB, t0, t2, t7, t8, show ¬ (l.length : Int) < l.length by omega]
      rw [decide_eq_true ⟨hlen, hby2⟩]
      exact ⟨(by first | trivial | rfl | omega), (by first | trivial | rfl | omega)⟩
  · simp -dsimp (maxSteps := 4000000) (disch := first | omega | assumption | (simp only [FB, Nat.reduceAdd]; done) | (simp only [LB]; omega)) only [EB, ↓reduceIte, WB, Nat.reduceSub, Nat.reduceAdd, Int.reduceEq, Int.reduceNe, Int.reduceLT, Int.reduceLE, Int.reduceAdd, Int.reduceSub, Int.reduceMul, Int.reduceNeg, Int.reduceToNat, Nat.reduceEqDiff, Nat.reduceLT, Nat.reduceLeDiff, Nat.reduceMul, List.replicate, reduceCtorEq, TB, NB, MB, show (most : Int) < l.length by omega]
    rw [decide_eq_false fun h => hlen h.1]
    exact ⟨(by first | trivial | rfl | omega), (by first | trivial | rfl | omega)⟩
def lightO (l : List Or') : Prop := l.length ≤ 60 ∧ ∀ x ∈ l, x.key.length ≤ 100 ∧ x.val.length ≤ 500
instance (l : List Or') : Decidable (lightO l) := by unfold lightO; exact inferInstance
theorem light9 (v : Value) (l : List Or') (hl : l.length ≤ 140737488355328) (a : AW) (m : Nat) (hm : m ≤ a.next) (hv : RV encO 4 a.heap m v l) (K : Value → AW → Prop) :
    WCall Try.prog GV 9 [v] a K = K (.bool (decide (lightO l))) a := by
  refine call_eq ?_ K
  rw [call_env Try.func9 rfl Try.ntmps9 rfl rfl (by simp)]
  obtain ⟨p, c, rfl⟩ := hv.len
  by_cases hlen : l.length ≤ 60
  · simp -dsimp (maxSteps := 4000000) (disch := first | omega | assumption | (simp only [FB, Nat.reduceAdd]; done) | (simp only [LB]; omega)) only [EB, ↓reduceIte, WB, Nat.reduceSub, Nat.reduceAdd, Int.reduceEq, Int.reduceNe, Int.reduceLT, Int.reduceLE, Int.reduceAdd, Int.reduceSub, Int.reduceMul, Int.reduceNeg, Int.reduceToNat, Nat.reduceEqDiff, Nat.reduceLT, Nat.reduceLeDiff, Nat.reduceMul, List.replicate, reduceCtorEq, TB, NB, MB, show ¬ (60 : Int) < l.length by omega]
    refine loop_inv (fun r t w => ∃ i, ∃ e : Nat → Value, r = l.length - i ∧ i ≤ l.length ∧ w = ⟨a.next, a.heap, a.next, []⟩ ∧ t = TT 29 e ∧ (∀ j (hj : j < l.length), j < i → l[j].key.length ≤ 100 ∧ l[j].val.length ≤ 500) ∧ e 0 = .slice p l.length c ∧ e 3 = .int .i64 i) ⟨0, _, rfl, by omega, rfl, rfl, fun j _ h => absurd h (by omega), rfl, rfl⟩ ?_
    rintro r t w ⟨i, e, rfl, hi, rfl, rfl, hok, t0, t3⟩
    by_cases hlt : i < l.length
    · obtain ⟨b, o, sp, rw0, cc, rfl, hlk, hbn, hle, hat, hkk⟩ := hv.at encO_len hlt
      have k2 : cc[o + (i * 4 + 2)]? = some (.string (mkStr l[i].key)) := by have := hkk 2 (by omega); rw [← Nat.add_assoc]; simpa [encO] using this
      have k3 : cc[o + (i * 4 + 3)]? = some (.string (mkStr l[i].val)) := by have := hkk 3 (by omega); rw [← Nat.add_assoc]; simpa [encO] using this
      by_cases h1 : (100 : Int) < l[i].key.length
      · simp -dsimp (maxSteps := 4000000) (disch := first | omega | assumption | (simp only [FB, Nat.reduceAdd]; done) | (simp only [LB]; omega)) only [EB, ↓reduceIte, WB, Nat.reduceSub, Nat.reduceAdd, Int.reduceEq, Int.reduceNe, Int.reduceLT, Int.reduceLE, Int.reduceAdd, Int.reduceSub, Int.reduceMul, Int.reduceNeg, Int.reduceToNat, Nat.reduceEqDiff, Nat.reduceLT, Nat.reduceLeDiff, Nat.reduceMul, List.replicate, reduceCtorEq, TB, NB, MB, t0, t3, show (i : Int) < l.length by omega, hlk, k2, k3, h1]
        rw [decide_eq_false fun h => by have := (h.2 l[i] (List.getElem_mem hlt)).1; omega]
        exact ⟨(by first | trivial | rfl | omega), (by first | trivial | rfl | omega)⟩
      · by_cases h2 : (500 : Int) < l[i].val.length
        · simp -dsimp (maxSteps := 4000000) (disch := first | omega | assumption | (simp only [FB, Nat.reduceAdd]; done) | (simp only [LB]; omega)) only [EB, ↓reduceIte, WB, Nat.reduceSub, Nat.reduceAdd, Int.reduceEq, Int.reduceNe, Int.reduceLT, Int.reduceLE, Int.reduceAdd, Int.reduceSub, Int.reduceMul, Int.reduceNeg, Int.reduceToNat, Nat.reduceEqDiff, Nat.reduceLT, Nat.reduceLeDiff, Nat.reduceMul, List.replicate, reduceCtorEq, TB, NB, MB, t0, t3, show (i : Int) < l.length by omega, hlk, k2, k3, h1, h2]
          rw [decide_eq_false fun h => by have := (h.2 l[i] (List.getElem_mem hlt)).2; omega]
          exact ⟨(by first | trivial | rfl | omega), (by first | trivial | rfl | omega)⟩
        · simp -dsimp (maxSteps := 4000000) (disch := first | omega | assumption | (simp only [FB, Nat.reduceAdd]; done) | (simp only [LB]; omega)) only [EB, ↓reduceIte, WB, Nat.reduceSub, Nat.reduceAdd, Int.reduceEq, Int.reduceNe, Int.reduceLT, Int.reduceLE, Int.reduceAdd, Int.reduceSub, Int.reduceMul, Int.reduceNeg, Int.reduceToNat, Nat.reduceEqDiff, Nat.reduceLT, Nat.reduceLeDiff, Nat.reduceMul, List.replicate, reduceCtorEq, TB, NB, MB, t0, t3, show (i : Int) < l.length by omega, hlk, k2, k3, h1, h2, wrap64]
          refine ⟨trivial, l.length - (i + 1), by omega, i + 1, _, rfl, by omega, (by first | trivial | rfl | omega), rfl, fun j hj hji => ?_, ?_⟩
          · rcases Nat.lt_or_ge j i with h | h
            · exact hok j hj h
            · obtain rfl : j = i := by omega
              omega
          · simp only [ups_at, ↓reduceIte, Nat.reduceEqDiff]; exact ⟨t0, (by first | trivial | rfl | omega)⟩
    · obtain rfl : i = l.length := by omega
      simp -dsimp (maxSteps := 4000000) (disch := first | omega | assumption | (simp only [FB, Nat.reduceAdd]; done) | (simp only [LB]; omega)) only [EB, ↓reduceIte, WB, Nat.reduceSub, Nat.reduceAdd, Int.reduceEq, Int.reduceNe, Int.reduceLT, Int.reduceLE, Int.reduceAdd, Int.reduceSub, Int.reduceMul, Int.reduceNeg, Int.reduceToNat, Nat.reduceEqDiff, Nat.reduceLT, Nat.reduceLeDiff, Nat.reduceMul, List.replicate, reduceCtorEq, TB, NB, MB, t0, t3, show ¬ (l.length : Int) < l.length by omega]
      rw [decide_eq_true (show lightO l from ⟨hlen, fun x hx => by
        obtain ⟨j, hj, rfl⟩ := List.mem_iff_getElem.1 hx
        exact hok j hj hj⟩)]
      exact ⟨(by first | trivial | rfl | omega), (by first | trivial | rfl | omega)⟩
  · simp -dsimp (maxSteps := 4000000) (disch := first | omega | assumption | (simp only [FB, Nat.reduceAdd]; done) | (simp only [LB]; omega)) only [EB, ↓reduceIte, WB, Nat.reduceSub, Nat.reduceAdd, Int.reduceEq, Int.reduceNe, Int.reduceLT, Int.reduceLE, Int.reduceAdd, Int.reduceSub, Int.reduceMul, Int.reduceNeg, Int.reduceToNat, Nat.reduceEqDiff, Nat.reduceLT, Nat.reduceLeDiff, Nat.reduceMul, List.replicate, reduceCtorEq, TB, NB, MB, show (60 : Int) < l.length by omega]
    rw [decide_eq_false fun h => hlen h.1]
    exact ⟨(by first | trivial | rfl | omega), (by first | trivial | rfl | omega)⟩
def lightB (ps : List Pr) (l : List Or') : Prop := (ps.length ≤ 60 ∧ lightP ps ≤ 9000) ∧ lightO l
instance (ps : List Pr) (l : List Or') : Decidable (lightB ps l) := by unfold lightB; exact inferInstance
theorem light12 (v u : Value) (ps : List Pr) (l : List Or') (hps : ps.length ≤ 140737488355328) (hl : l.length ≤ 140737488355328) (hx : ∀ x ∈ ps, x.key.length ≤ 140737488355328 ∧ x.val.length ≤ 140737488355328) (a : AW) (m : Nat) (hm : m ≤ a.next) (hv : RV encPr 2 a.heap m v ps) (hu : RV encO 4 a.heap m u l) (K : Value → AW → Prop) :
    WCall Try.prog GV 12 [v, u] a K = K (.bool (decide (lightB ps l))) a := by
  refine call_eq ?_ K
  rw [call_env Try.func12 rfl Try.ntmps12 rfl rfl (by simp)]
  have h1 : ∀ K : Value → AW → Prop, WCall Try.prog GV 24 [v, .int .i64 60, .int .i64 9000] ⟨a.next, a.heap, a.next, []⟩ K = K (.bool (decide (ps.length ≤ 60 ∧ lightP ps ≤ 9000))) ⟨a.next, a.heap, a.next, []⟩ := fun K => light24 v ps 60 9000 (by omega) (by omega) hps hx ⟨a.next, a.heap, a.next, []⟩ m hm hv K
  have h2 := fun K => light9 u l hl ⟨a.next, a.heap, a.next, []⟩ m hm hu K
  by_cases c1 : ps.length ≤ 60 ∧ lightP ps ≤ 9000
  · simp -dsimp (maxSteps := 4000000) (disch := first | omega | assumption | (simp only [FB, Nat.reduceAdd]; done) | (simp only [LB]; omega)) only [EB, ↓reduceIte, WB, Nat.reduceSub, Nat.reduceAdd, Int.reduceEq, Int.reduceNe, Int.reduceLT, Int.reduceLE, Int.reduceAdd, Int.reduceSub, Int.reduceMul, Int.reduceNeg, Int.reduceToNat, Nat.reduceEqDiff, Nat.reduceLT, Nat.reduceLeDiff, Nat.reduceMul, List.replicate, reduceCtorEq, TB, NB, MB, h1, h2, decide_eq_true c1]
    have : decide (lightB ps l) = decide (lightO l) := by
      by_cases c2 : lightO l
      · rw [decide_eq_true c2, decide_eq_true (show lightB ps l from ⟨c1, c2⟩)]
      · rw [decide_eq_false c2, decide_eq_false fun h : lightB ps l => c2 h.2]
    rw [this]
    exact ⟨(by first | trivial | rfl | omega), (by first | trivial | rfl | omega)⟩
  · simp -dsimp (maxSteps := 4000000) (disch := first | omega | assumption | (simp only [FB, Nat.reduceAdd]; done) | (simp only [LB]; omega)) only [EB, ↓reduceIte, WB, Nat.reduceSub, Nat.reduceAdd, Int.reduceEq, Int.reduceNe, Int.reduceLT, Int.reduceLE, Int.reduceAdd, Int.reduceSub, Int.reduceMul, Int.reduceNeg, Int.reduceToNat, Nat.reduceEqDiff, Nat.reduceLT, Nat.reduceLeDiff, Nat.reduceMul, List.replicate, reduceCtorEq, TB, NB, MB, h1, h2, decide_eq_false c1]
    rw [decide_eq_false fun h : lightB ps l => c1 h.1]
    exact ⟨(by first | trivial | rfl | omega), (by first | trivial | rfl | omega)⟩
theorem own14 (v : Value) (l : List Pr) (hl : l.length ≤ 1000000) (a : AW) (m : Nat) (hm : m ≤ a.next) (hv : RV encPr 2 a.heap m v l) (K : Value → AW → Prop)
    (hK : ∀ v' n' h', a.next ≤ n' → n' ≤ a.next + 1 → OwnS encPr 2 h' n' a.next v' l → (∀ j, j < a.next → look j h' = look j a.heap) → K v' ⟨n', h', a.base, a.dirty⟩) :
    WCall Try.prog GV 14 [v] a K := by
  rw [call_env Try.func14 rfl Try.ntmps14 rfl rfl (by simp)]
  have hv1 : RV encPr 2 ((a.next, Blk.cells [] true) :: a.heap) m v l := hv.keep (Nat.le_refl _) fun j hj => look_miss (by omega)
  simp -dsimp (maxSteps := 4000000) (disch := first | omega | assumption | (simp only [FB, Nat.reduceAdd]; done) | (simp only [LB]; omega)) only [EB, ↓reduceIte, WB, Nat.reduceSub, Nat.reduceAdd, Int.reduceEq, Int.reduceNe, Int.reduceLT, Int.reduceLE, Int.reduceAdd, Int.reduceSub, Int.reduceMul, Int.reduceNeg, Int.reduceToNat, Nat.reduceEqDiff, Nat.reduceLT, Nat.reduceLeDiff, Nat.reduceMul, List.replicate, reduceCtorEq, TB, NB, MB, ]
  obtain ⟨v2, q2, n2, h2, e2, o2, f1, f2, f3, f4, f5⟩ := append_mine (E := Try.prog) (t0 := 33) (t1 := 33) (bs := a.next) (d := []) app33 encPr_len encPr_one (OwnS.made (n := a.next + 1) (h := (a.next, Blk.cells [] true) :: a.heap) look_self (Nat.lt_succ_self _)) (Nat.le_refl _) (by omega) hv1 (by simpa using hl)
  rw [e2]
  simp -dsimp (maxSteps := 4000000) (disch := first | omega | assumption | (simp only [FB, Nat.reduceAdd]; done) | (simp only [LB]; omega)) only [EB, ↓reduceIte, WB, Nat.reduceSub, Nat.reduceAdd, Int.reduceEq, Int.reduceNe, Int.reduceLT, Int.reduceLE, Int.reduceAdd, Int.reduceSub, Int.reduceMul, Int.reduceNeg, Int.reduceToNat, Nat.reduceEqDiff, Nat.reduceLT, Nat.reduceLeDiff, Nat.reduceMul, List.replicate, reduceCtorEq, TB, NB, MB, ]
  exact leave_own (a := a) encPr_flat o2 f3 fun v' n' h' x1 x2 x3 x4 _ => hK v' n' h' x1 x2 x3 fun j hj => x4 j hj
theorem own17 (v : Value) (l : List Or') (hl : l.length ≤ 1000000) (a : AW) (m : Nat) (hm : m ≤ a.next) (hv : RV encO 4 a.heap m v l) (K : Value → AW → Prop)
    (hK : ∀ v' n' h', a.next ≤ n' → n' ≤ a.next + 1 → OwnS encO 4 h' n' a.next v' l → (∀ j, j < a.next → look j h' = look j a.heap) → K v' ⟨n', h', a.base, a.dirty⟩) :
    WCall Try.prog GV 17 [v] a K := by
  rw [call_env Try.func17 rfl Try.ntmps17 rfl rfl (by simp)]
  have hv1 : RV encO 4 ((a.next, Blk.cells [] true) :: a.heap) m v l := hv.keep (Nat.le_refl _) fun j hj => look_miss (by omega)
  simp -dsimp (maxSteps := 4000000) (disch := first | omega | assumption | (simp only [FB, Nat.reduceAdd]; done) | (simp only [LB]; omega)) only [EB, ↓reduceIte, WB, Nat.reduceSub, Nat.reduceAdd, Int.reduceEq, Int.reduceNe, Int.reduceLT, Int.reduceLE, Int.reduceAdd, Int.reduceSub, Int.reduceMul, Int.reduceNeg, Int.reduceToNat, Nat.reduceEqDiff, Nat.reduceLT, Nat.reduceLeDiff, Nat.reduceMul, List.replicate, reduceCtorEq, TB, NB, MB, ]
  obtain ⟨v2, q2, n2, h2, e2, o2, f1, f2, f3, f4, f5⟩ := append_mine (E := Try.prog) (t0 := 27) (t1 := 27) (bs := a.next) (d := []) app27 encO_len encO_one (OwnS.made (n := a.next + 1) (h := (a.next, Blk.cells [] true) :: a.heap) look_self (Nat.lt_succ_self _)) (Nat.le_refl _) (by omega) hv1 (by simpa using hl)
  rw [e2]
  simp -dsimp (maxSteps := 4000000) (disch := first | omega | assumption | (simp only [FB, Nat.reduceAdd]; done) | (simp only [LB]; omega)) only [EB, ↓reduceIte, WB, Nat.reduceSub, Nat.reduceAdd, Int.reduceEq, Int.reduceNe, Int.reduceLT, Int.reduceLE, Int.reduceAdd, Int.reduceSub, Int.reduceMul, Int.reduceNeg, Int.reduceToNat, Nat.reduceEqDiff, Nat.reduceLT, Nat.reduceLeDiff, Nat.reduceMul, List.replicate, reduceCtorEq, TB, NB, MB, ]
  exact leave_own (a := a) encO_flat o2 f3 fun v' n' h' x1 x2 x3 x4 _ => hK v' n' h' x1 x2 x3 fun j hj => x4 j hj
theorem eqS39 (x y : Pr) : eqS Try.prog 39 (encPr x).toArray (encPr y).toArray = some (decide (x = y)) := by
  obtain ⟨a, b⟩ := x
  obtain ⟨a', b'⟩ := y
  have h1 : (decide (a = a') && decide (b = b')) = decide (Pr.mk a b = Pr.mk a' b') := by simp only [Pr.mk.injEq, Bool.decide_and]
  rw [← h1, eqS_key (L := [(false, 9, 0), (false, 9, 1)]) ⟨_, rfl, by decide +kernel, by decide +kernel⟩, encPr, encPr]
  simp only [key_cons, key_nil, part_one agg9, List.getElem?_cons_zero, List.getElem?_cons_succ, Option.bind_some, eq_str und9, ite_and, Bool.and_true]
theorem neq39 {x y} {b b' : Pr} : binA Try.prog .neq 39 x y (.agg (encPr b).toArray) (.agg (encPr b').toArray) = some (.bool (!decide (b = b'))) := bin_neq_agg rfl rfl (by decide +kernel) (eqS39 b b')
theorem same15 (v u : Value) (l k : List Pr) (hl : l.length ≤ 1000000) (a : AW) (m : Nat) (hm : m ≤ a.next) (hv : RV encPr 2 a.heap m v l) (hu : RV encPr 2 a.heap m u k) (K : Value → AW → Prop) :
    WCall Try.prog GV 15 [v, u] a K = K (.bool (decide (l = k))) a := by
  refine call_eq ?_ K
  rw [call_env Try.func15 rfl Try.ntmps15 rfl rfl (by simp)]
  obtain ⟨p, c, rfl⟩ := hv.len
  obtain ⟨p', c', rfl⟩ := hu.len
  by_cases hlen : l.length = k.length
  · simp -dsimp (maxSteps := 4000000) (disch := first | omega | assumption | (simp only [FB, Nat.reduceAdd]; done) | (simp only [LB]; omega)) only [EB, ↓reduceIte, WB, Nat.reduceSub, Nat.reduceAdd, Int.reduceEq, Int.reduceNe, Int.reduceLT, Int.reduceLE, Int.reduceAdd, Int.reduceSub, Int.reduceMul, Int.reduceNeg, Int.reduceToNat, Nat.reduceEqDiff, Nat.reduceLT, Nat.reduceLeDiff, Nat.reduceMul, List.replicate, reduceCtorEq, TB, NB, MB, hlen]
    refine loop_inv (fun r t w => ∃ i n, ∃ e : Nat → Value, r = l.length - i ∧ i ≤ l.length ∧ w = ⟨n, a.heap, a.next, []⟩ ∧ a.next ≤ n ∧ t = TT 26 e ∧ (∀ j (h1 : j < l.length) (h2 : j < k.length), j < i → l[j] = k[j]) ∧ e 0 = .slice p k.length c ∧ e 1 = .slice p' k.length c' ∧ e 5 = .int .i64 i) ⟨0, a.next, _, rfl, by omega, rfl, Nat.le_refl _, rfl, fun j _ _ h => absurd h (by omega), rfl, rfl, rfl⟩ ?_
    rintro r t w ⟨i, n, e, rfl, hi, rfl, hn, rfl, hb, t0, t1, t5⟩
    by_cases hlt : i < l.length
    · have hlt2 : i < k.length := by omega
      obtain ⟨b, o, sp, rw0, cc, rfl, hlk, hbn, hle, hat, -⟩ := hv.at encPr_len hlt
      obtain ⟨b', o', sp', rw0', cc', rfl, hlk', hbn', hle', hat', -⟩ := hu.at encPr_len hlt2
      by_cases he : l[i] = k[i]
      · simp -dsimp (maxSteps := 4000000) (disch := first | omega | assumption | (simp only [FB, Nat.reduceAdd]; done) | (simp only [LB]; omega)) only [EB, ↓reduceIte, WB, Nat.reduceSub, Nat.reduceAdd, Int.reduceEq, Int.reduceNe, Int.reduceLT, Int.reduceLE, Int.reduceAdd, Int.reduceSub, Int.reduceMul, Int.reduceNeg, Int.reduceToNat, Nat.reduceEqDiff, Nat.reduceLT, Nat.reduceLeDiff, Nat.reduceMul, List.replicate, reduceCtorEq, TB, NB, MB, t0, t1, t5, show (i : Int) < k.length by omega]
        refine code_draw [(0, 1), (0, 4), (0, 5), (0, 6), (0, 7), (1, 4), (1, 5), (1, 6), (1, 7), (2, 4), (2, 5), (2, 6), (2, 7), (3, 4), (3, 5), (3, 6), (3, 7), (4, 5)] (by decide +kernel) (by decide +kernel) ?_
        simp -dsimp (maxSteps := 4000000) (disch := first | omega | assumption | (simp only [FB, Nat.reduceAdd]; done) | (simp only [LB]; omega)) only [EB, ↓reduceIte, WB, Nat.reduceSub, Nat.reduceAdd, Int.reduceEq, Int.reduceNe, Int.reduceLT, Int.reduceLE, Int.reduceAdd, Int.reduceSub, Int.reduceMul, Int.reduceNeg, Int.reduceToNat, Nat.reduceEqDiff, Nat.reduceLT, Nat.reduceLeDiff, Nat.reduceMul, List.replicate, reduceCtorEq, RB, Nat.reduceEqDiff, TB, NB, MB, t0, t1, t5, hlk, hlk', hat, hat', neq39, decide_eq_true he, wrap64, show b < n + 1 by omega, show b' < n + 1 by omega]
        refine ⟨l.length - (i + 1), by omega, i + 1, n + 1, _, rfl, by omega, (by first | trivial | rfl | omega), by omega, rfl, fun j h1 h2' hj => ?_, ?_⟩
        · have h2 : j < k.length := by omega
          rcases Nat.lt_or_ge j i with h | h
          · exact hb j h1 h2 h
          · obtain rfl : j = i := by omega
            exact he
        · simp only [ups_at, ↓reduceIte, Nat.reduceEqDiff]; exact ⟨t0, t1, (by first | trivial | rfl | omega)⟩
      · simp -dsimp (maxSteps := 4000000) (disch := first | omega | assumption | (simp only [FB, Nat.reduceAdd]; done) | (simp only [LB]; omega)) only [EB, ↓reduceIte, WB, Nat.reduceSub, Nat.reduceAdd, Int.reduceEq, Int.reduceNe, Int.reduceLT, Int.reduceLE, Int.reduceAdd, Int.reduceSub, Int.reduceMul, Int.reduceNeg, Int.reduceToNat, Nat.reduceEqDiff, Nat.reduceLT, Nat.reduceLeDiff, Nat.reduceMul, List.replicate, reduceCtorEq, TB, NB, MB, t0, t1, t5, show (i : Int) < k.length by omega]
        refine code_draw [(0, 1), (0, 4), (0, 5), (0, 6), (0, 7), (1, 4), (1, 5), (1, 6), (1, 7), (2, 4), (2, 5), (2, 6), (2, 7), (3, 4), (3, 5), (3, 6), (3, 7), (4, 5)] (by decide +kernel) (by decide +kernel) ?_
        simp -dsimp (maxSteps := 4000000) (disch := first | omega | assumption | (simp only [FB, Nat.reduceAdd]; done) | (simp only [LB]; omega)) only [EB, ↓reduceIte, WB, Nat.reduceSub, Nat.reduceAdd, Int.reduceEq, Int.reduceNe, Int.reduceLT, Int.reduceLE, Int.reduceAdd, Int.reduceSub, Int.reduceMul, Int.reduceNeg, Int.reduceToNat, Nat.reduceEqDiff, Nat.reduceLT, Nat.reduceLeDiff, Nat.reduceMul, List.replicate, reduceCtorEq, RB, Nat.reduceEqDiff, TB, NB, MB, t0, t1, t5, hlk, hlk', hat, hat', neq39, decide_eq_false he, wrap64, show b < n + 1 by omega, show b' < n + 1 by omega]
        rw [decide_eq_false fun h => he (by subst h; rfl)]
    · have hi2 : i = l.length := by omega
      have hlk : l = k := List.ext_getElem hlen fun j h1 h2 => hb j h1 h2 (by omega)
      simp -dsimp (maxSteps := 4000000) (disch := first | omega | assumption | (simp only [FB, Nat.reduceAdd]; done) | (simp only [LB]; omega)) only [EB, ↓reduceIte, WB, Nat.reduceSub, Nat.reduceAdd, Int.reduceEq, Int.reduceNe, Int.reduceLT, Int.reduceLE, Int.reduceAdd, Int.reduceSub, Int.reduceMul, Int.reduceNeg, Int.reduceToNat, Nat.reduceEqDiff, Nat.reduceLT, Nat.reduceLeDiff, Nat.reduceMul, List.replicate, reduceCtorEq, TB, NB, MB, t0, t1, t5, show ¬ (i : Int) < k.length by omega]
      rw [decide_eq_true hlk]
      exact ⟨(by first | trivial | rfl | omega), (by first | trivial | rfl | omega)⟩
  · simp -dsimp (maxSteps := 4000000) (disch := first | omega | assumption | (simp only [FB, Nat.reduceAdd]; done) | (simp only [LB]; omega)) only [EB, ↓reduceIte, WB, Nat.reduceSub, Nat.reduceAdd, Int.reduceEq, Int.reduceNe, Int.reduceLT, Int.reduceLE, Int.reduceAdd, Int.reduceSub, Int.reduceMul, Int.reduceNeg, Int.reduceToNat, Nat.reduceEqDiff, Nat.reduceLT, Nat.reduceLeDiff, Nat.reduceMul, List.replicate, reduceCtorEq, TB, NB, MB, show ¬ (l.length : Int) = k.length by omega]
    rw [decide_eq_false fun h => hlen (by rw [h])]
    exact ⟨(by first | trivial | rfl | omega), (by first | trivial | rfl | omega)⟩
end Go.Proofs.YtdgpniekpmoadaaAM
