/- Chapter 6: searching, copying, deleting. -/
import Derived.Test.YtpcaoohacgkeiaaP1
namespace Go.Proofs.YtpcaoohacgkeiaaAM
open Go Go.RowKit
set_option linter.unusedVariables false
set_option linter.unusedSimpArgs false
set_option maxRecDepth 10000
set_option maxHeartbeats 4000000

theorem encB_len (b : Bkt) : (encB b).length = 3 := rfl
theorem encB_one (b : Bkt) : (encB b).all Value.oneCell' = true := rfl
theorem encB_flat (b : Bkt) : (encB b).all flat = true := rfl
/-- The first place at which something holds, or the length. -/
def fidx {α : Type} (p : α → Bool) : List α → Nat
  | [] => 0
  | x :: l => if p x = true then 0 else fidx p l + 1
theorem fidx_of {α : Type} {p : α → Bool} : ∀ {l : List α} {i : Nat}, i ≤ l.length → (∀ j (hj : j < l.length), j < i → p l[j] = false) → (∀ hi : i < l.length, p l[i] = true) → fidx p l = i
  | [], i, h, _, _ => by simp at h; simp [fidx, h]
  | x :: l, 0, _, _, h => by have := h (by simp); simp at this; simp [fidx, this]
  | x :: l, i + 1, h, h1, h2 => by
    have h0 := h1 0 (by simp) (by omega)
    simp at h0
    rw [fidx, if_neg (by simp [h0]), fidx_of (l := l) (i := i) (by simpa using h) (fun j hj hji => by have := h1 (j + 1) (by simpa using hj) (by omega); rwa [List.getElem_cons_succ] at this) (fun hi => by have := h2 (by simpa using hi); rwa [List.getElem_cons_succ] at this)]
theorem fidx_le {α : Type} {p : α → Bool} : ∀ (l : List α), fidx p l ≤ l.length
  | [] => by simp [fidx]
  | x :: l => by unfold fidx; split; · omega
                 · have := fidx_le (p := p) l; simp; omega
theorem fidx_at {α : Type} {p : α → Bool} : ∀ {l : List α} (h : fidx p l < l.length), p l[fidx p l] = true
  | [], h => by simp at h
  | x :: l, h => by
    by_cases hp : p x = true
    · have : fidx p (x :: l) = 0 := by rw [fidx, if_pos hp]
      simp only [this]; simpa using hp
    · have e : fidx p (x :: l) = fidx p l + 1 := by rw [fidx, if_neg hp]
      have h' : fidx p l < l.length := by rw [e] at h; simpa using h
      have := fidx_at h'
      simp only [e]; simpa using this
theorem fidx_before {α : Type} {p : α → Bool} : ∀ {l : List α} {j : Nat} (h : j < l.length), j < fidx p l → p l[j] = false
  | x :: l, j, h, hj => by
    by_cases hp : p x = true
    · rw [fidx, if_pos hp] at hj; omega
    · rw [fidx, if_neg hp] at hj
      cases j with
      | zero => simpa using hp
      | succ j => simpa using fidx_before (l := l) (by simpa using h) (by omega)
def nameIs (s : List UInt8) (b : Bkt) : Bool := decide (b.name = s)
def nameGe (s : List UInt8) (b : Bkt) : Bool := !Op.bytesLess b.name s
theorem is37 (b : Bkt) (s : List UInt8) (q : Nat) (a : AW) (hq : look q a.heap = some (.cells [.string (mkStr s)] true)) (hqn : q < a.next) (K) : WCall Try.prog GV 37 [.agg (encB b).toArray, .pointer (some ⟨q, 0, none⟩)] a K = K (.bool (nameIs s b)) a := by
  rw [call_env Try.func37 rfl Try.ntmps37 rfl rfl (by simp), encB]
  simp -dsimp (maxSteps := 4000000) (disch := first | omega | assumption | (simp only [FB, Nat.reduceAdd]; done) | (simp only [LB]; omega)) only [EB, ↓reduceIte, WB, Nat.reduceSub, Nat.reduceAdd, Int.reduceEq, Int.reduceNe, Int.reduceLT, Int.reduceLE, Int.reduceAdd, Int.reduceSub, Int.reduceMul, Int.reduceNeg, Int.reduceToNat, Nat.reduceEqDiff, Nat.reduceLT, Nat.reduceLeDiff, Nat.reduceMul, List.replicate, reduceCtorEq, TB, NB, show q ≠ a.next by omega, hq, nameIs]
theorem ge38 (b : Bkt) (s : List UInt8) (q : Nat) (a : AW) (hq : look q a.heap = some (.cells [.string (mkStr s)] true)) (hqn : q < a.next) (K) : WCall Try.prog GV 38 [.agg (encB b).toArray, .pointer (some ⟨q, 0, none⟩)] a K = K (.bool (nameGe s b)) a := by
  rw [call_env Try.func38 rfl Try.ntmps38 rfl rfl (by simp), encB]
  simp -dsimp (maxSteps := 4000000) (disch := first | omega | assumption | (simp only [FB, Nat.reduceAdd]; done) | (simp only [LB]; omega)) only [EB, ↓reduceIte, WB, Nat.reduceSub, Nat.reduceAdd, Int.reduceEq, Int.reduceNe, Int.reduceLT, Int.reduceLE, Int.reduceAdd, Int.reduceSub, Int.reduceMul, Int.reduceNeg, Int.reduceToNat, Nat.reduceEqDiff, Nat.reduceLT, Nat.reduceLeDiff, Nat.reduceMul, List.replicate, reduceCtorEq, TB, NB, show q ≠ a.next by omega, hq, nameGe]
theorem idx36 (v : Value) (l : List Bkt) (hl : l.length ≤ 1000000) (g : FuncId) (cap : Value) (p : Bkt → Bool) (a : AW) (m : Nat) (hm : m ≤ a.next) (hv : RV encB 3 a.heap m v l)
    (hp : ∀ (b : Bkt) (K : Value → AW → Prop), WCall Try.prog GV g [.agg (encB b).toArray, cap] ⟨a.next, a.heap, a.next, []⟩ K = K (.bool (p b)) ⟨a.next, a.heap, a.next, []⟩) (K : Value → AW → Prop) :
    WCall Try.prog GV 36 [v, .func (.func g) #[] #[cap]] a K = K (.int .i64 (if fidx p l < l.length then (fidx p l : Int) else -1)) a := by
  refine call_eq ?_ K
  rw [call_env Try.func36 rfl Try.ntmps36 rfl rfl (by simp)]
  obtain ⟨pp, c, rfl⟩ := hv.len
  simp -dsimp (maxSteps := 4000000) (disch := first | omega | assumption | (simp only [FB, Nat.reduceAdd]; done) | (simp only [LB]; omega)) only [EB, ↓reduceIte, WB, Nat.reduceSub, Nat.reduceAdd, Int.reduceEq, Int.reduceNe, Int.reduceLT, Int.reduceLE, Int.reduceAdd, Int.reduceSub, Int.reduceMul, Int.reduceNeg, Int.reduceToNat, Nat.reduceEqDiff, Nat.reduceLT, Nat.reduceLeDiff, Nat.reduceMul, List.replicate, reduceCtorEq, TB, NB, ]
  refine loop_inv (fun r t w => ∃ i, ∃ e : Nat → Value, r = l.length - i ∧ i ≤ l.length ∧ w = ⟨a.next, a.heap, a.next, []⟩ ∧ t = TT 19 e ∧ (∀ j (hj : j < l.length), j < i → p l[j] = false) ∧ e 0 = .slice pp l.length c ∧ e 1 = .func (.func g) #[] #[cap] ∧ e 7 = .int .i64 l.length ∧ e 8 = .int .i64 i) ⟨0, _, rfl, by omega, rfl, rfl, fun j _ h => absurd h (by omega), rfl, rfl, rfl, rfl⟩ ?_
  rintro r t w ⟨i, e, rfl, hi, rfl, rfl, hb, t0, t1, t7, t8⟩
  by_cases hlt : i < l.length
  · obtain ⟨b, o, sp, rw0, cc, rfl, hlk, hbn, hle, hat, -⟩ := hv.at encB_len hlt
    cases hpi : p l[i] with
    | true =>
      have hf : fidx p l = i := fidx_of hi hb fun _ => hpi
      simp -dsimp (maxSteps := 4000000) (disch := first | omega | assumption | (simp only [FB, Nat.reduceAdd]; done) | (simp only [LB]; omega)) only [EB, ↓reduceIte, WB, Nat.reduceSub, Nat.reduceAdd, Int.reduceEq, Int.reduceNe, Int.reduceLT, Int.reduceLE, Int.reduceAdd, Int.reduceSub, Int.reduceMul, Int.reduceNeg, Int.reduceToNat, Nat.reduceEqDiff, Nat.reduceLT, Nat.reduceLeDiff, Nat.reduceMul, List.replicate, reduceCtorEq, TB, NB, t0, t1, t7, t8, show (i : Int) < l.length by omega, hlk, hat, hp, hpi, hf, hlt]
      exact ⟨trivial, trivial⟩
    | false =>
      simp -dsimp (maxSteps := 4000000) (disch := first | omega | assumption | (simp only [FB, Nat.reduceAdd]; done) | (simp only [LB]; omega)) only [EB, ↓reduceIte, WB, Nat.reduceSub, Nat.reduceAdd, Int.reduceEq, Int.reduceNe, Int.reduceLT, Int.reduceLE, Int.reduceAdd, Int.reduceSub, Int.reduceMul, Int.reduceNeg, Int.reduceToNat, Nat.reduceEqDiff, Nat.reduceLT, Nat.reduceLeDiff, Nat.reduceMul, List.replicate, reduceCtorEq, TB, NB, t0, t1, t7, t8, show (i : Int) < l.length by omega, hlk, hat, hp, hpi, wrap64]
      refine ⟨trivial, l.length - (i + 1), by omega, i + 1, _, rfl, by omega, trivial, rfl, fun j hj hji => ?_, ?_⟩
      · rcases Nat.lt_or_ge j i with h | h
        · exact hb j hj h
        · obtain rfl : j = i := by omega
          exact hpi
      · simp only [ups_at, ↓reduceIte, Nat.reduceEqDiff]; exact ⟨t0, t1, t7, (by first | trivial | rfl | omega)⟩
  · obtain rfl : i = l.length := by omega
    have hf : fidx p l = l.length := fidx_of hi hb fun h => absurd h (by omega)
    simp -dsimp (maxSteps := 4000000) (disch := first | omega | assumption | (simp only [FB, Nat.reduceAdd]; done) | (simp only [LB]; omega)) only [EB, ↓reduceIte, WB, Nat.reduceSub, Nat.reduceAdd, Int.reduceEq, Int.reduceNe, Int.reduceLT, Int.reduceLE, Int.reduceAdd, Int.reduceSub, Int.reduceMul, Int.reduceNeg, Int.reduceToNat, Nat.reduceEqDiff, Nat.reduceLT, Nat.reduceLeDiff, Nat.reduceMul, List.replicate, reduceCtorEq, TB, NB, t0, t1, t7, t8, show ¬ (l.length : Int) < l.length by omega]
    rw [hf, if_neg (by omega)]
    exact ⟨rfl, trivial⟩
/-- Where a name is, or belongs. -/
def findB (l : List Bkt) (s : List UInt8) : Nat × Bool := if fidx (nameIs s) l < l.length then (fidx (nameIs s) l, true) else (fidx (nameGe s) l, false)
theorem find16 (v : Value) (l : List Bkt) (hl : l.length ≤ 1000000) (s : List UInt8) (a : AW) (m : Nat) (hm : m ≤ a.next) (hv : RV encB 3 a.heap m v l) (K : Value → AW → Prop) :
    WCall Try.prog GV 16 [v, .string (mkStr s)] a K = K (.tuple #[.int .i64 (findB l s).1, .bool (findB l s).2]) a := by
  refine call_eq ?_ K
  rw [call_env Try.func16 rfl Try.ntmps16 rfl rfl (by simp)]
  obtain ⟨pp, c, rfl⟩ := hv.len
  have hv1 : RV encB 3 ((a.next, Blk.cells [.string (mkStr s)] true) :: a.heap) m (.slice pp l.length c) l := hv.keep (Nat.le_refl _) fun j hj => look_miss (by omega)
  have i1 := fun K => idx36 (.slice pp l.length c) l hl 37 (.pointer (some ⟨a.next, 0, none⟩)) (nameIs s) ⟨a.next + 1, (a.next, .cells [.string (mkStr s)] true) :: a.heap, a.next, []⟩ m (by simp only; omega) hv1 (fun b K => is37 b s a.next _ look_self (Nat.lt_succ_self _) K) K
  have i2 := fun K => idx36 (.slice pp l.length c) l hl 38 (.pointer (some ⟨a.next, 0, none⟩)) (nameGe s) ⟨a.next + 1, (a.next, .cells [.string (mkStr s)] true) :: a.heap, a.next, []⟩ m (by simp only; omega) hv1 (fun b K => ge38 b s a.next _ look_self (Nat.lt_succ_self _) K) K
  by_cases h1 : fidx (nameIs s) l < l.length
  · simp only [h1, if_true] at i1
    simp -dsimp (maxSteps := 4000000) (disch := first | omega | assumption | (simp only [FB, Nat.reduceAdd]; done) | (simp only [LB]; omega)) only [EB, ↓reduceIte, WB, Nat.reduceSub, Nat.reduceAdd, Int.reduceEq, Int.reduceNe, Int.reduceLT, Int.reduceLE, Int.reduceAdd, Int.reduceSub, Int.reduceMul, Int.reduceNeg, Int.reduceToNat, Nat.reduceEqDiff, Nat.reduceLT, Nat.reduceLeDiff, Nat.reduceMul, List.replicate, reduceCtorEq, TB, NB, i1, show (0 : Int) ≤ fidx (nameIs s) l by omega]
    rw [findB, if_pos h1]; exact ⟨rfl, trivial⟩
  · simp only [h1, if_false] at i1
    have hle := fidx_le (p := nameGe s) l
    by_cases h2 : fidx (nameGe s) l < l.length
    · simp only [h2, if_true] at i2
      simp -dsimp (maxSteps := 4000000) (disch := first | omega | assumption | (simp only [FB, Nat.reduceAdd]; done) | (simp only [LB]; omega)) only [EB, ↓reduceIte, WB, Nat.reduceSub, Nat.reduceAdd, Int.reduceEq, Int.reduceNe, Int.reduceLT, Int.reduceLE, Int.reduceAdd, Int.reduceSub, Int.reduceMul, Int.reduceNeg, Int.reduceToNat, Nat.reduceEqDiff, Nat.reduceLT, Nat.reduceLeDiff, Nat.reduceMul, List.replicate, reduceCtorEq, TB, NB, i1, i2, show ¬ (0 : Int) ≤ -1 by omega, show (0 : Int) ≤ fidx (nameGe s) l by omega]
      rw [findB, if_neg h1]; exact ⟨rfl, trivial⟩
    · simp only [h2, if_false] at i2
      simp -dsimp (maxSteps := 4000000) (disch := first | omega | assumption | (simp only [FB, Nat.reduceAdd]; done) | (simp only [LB]; omega)) only [EB, ↓reduceIte, WB, Nat.reduceSub, Nat.reduceAdd, Int.reduceEq, Int.reduceNe, Int.reduceLT, Int.reduceLE, Int.reduceAdd, Int.reduceSub, Int.reduceMul, Int.reduceNeg, Int.reduceToNat, Nat.reduceEqDiff, Nat.reduceLT, Nat.reduceLeDiff, Nat.reduceMul, List.replicate, reduceCtorEq, TB, NB, i1, i2, show ¬ (0 : Int) ≤ -1 by omega]
      rw [findB, if_neg h1, show fidx (nameGe s) l = l.length by omega]; exact ⟨rfl, trivial⟩
theorem eql_some {E : Program} {t e : TypeId} {x : Operand} {c : Value} {p : Addr} {n m : Nat} (hu : E.underlying t = some (.slice e)) : binA E .eql t x (.const c) (.slice (some p) n m) (.slice none 0 0) = some (.bool false) := by
  have h1 : flat (.slice (some p) n m) = false := rfl
  simp [binA, h1, hu, nilEq, isConstO]
theorem eql_none {t : TypeId} {x y : Operand} (h : t = 24) : binA Try.prog .eql t x y (.slice none 0 0) (.slice none 0 0) = some (.bool true) := by
  subst h
  rfl
theorem clone39 (v : Value) (l : List Bkt) (hl : l.length ≤ 1000000) (a : AW) (m : Nat) (hm : m ≤ a.next) (hv : RV encB 3 a.heap m v l) (K : Value → AW → Prop)
    (hK : ∀ v' n' h', a.next ≤ n' → n' ≤ a.next + 1 → OwnS encB 3 h' n' a.next v' l → (∀ j, j < a.next → look j h' = look j a.heap) → K v' ⟨n', h', a.base, a.dirty⟩) :
    WCall Try.prog GV 39 [v] a K := by
  rw [call_env Try.func39 rfl Try.ntmps39 rfl rfl (by simp)]
  rcases hv with ⟨rfl, rfl⟩ | ⟨b, o, sp, cap, rw0, c, rfl, hb, hbm, hc, ht, hsp, hcap⟩
  · simp -dsimp (maxSteps := 4000000) (disch := first | omega | assumption | (simp only [FB, Nat.reduceAdd]; done) | (simp only [LB]; omega)) only [EB, ↓reduceIte, WB, Nat.reduceSub, Nat.reduceAdd, Int.reduceEq, Int.reduceNe, Int.reduceLT, Int.reduceLE, Int.reduceAdd, Int.reduceSub, Int.reduceMul, Int.reduceNeg, Int.reduceToNat, Nat.reduceEqDiff, Nat.reduceLT, Nat.reduceLeDiff, Nat.reduceMul, List.replicate, reduceCtorEq, TB, NB, eql_none]
    rw [leave_flat rfl]
    exact hK _ _ _ (Nat.le_refl _) (by omega) (.inl ⟨rfl, rfl⟩) fun _ _ => rfl
  · have hv1 : RV encB 3 ((a.next, Blk.cells [] true) :: a.heap) m (.slice (some ⟨b, o, sp⟩) l.length cap) l := .inr ⟨b, o, sp, cap, rw0, c, rfl, by rw [look_miss (by omega)]; exact hb, hbm, hc, ht, hsp, hcap⟩
    simp -dsimp (maxSteps := 4000000) (disch := first | omega | assumption | (simp only [FB, Nat.reduceAdd]; done) | (simp only [LB]; omega)) only [EB, ↓reduceIte, WB, Nat.reduceSub, Nat.reduceAdd, Int.reduceEq, Int.reduceNe, Int.reduceLT, Int.reduceLE, Int.reduceAdd, Int.reduceSub, Int.reduceMul, Int.reduceNeg, Int.reduceToNat, Nat.reduceEqDiff, Nat.reduceLT, Nat.reduceLeDiff, Nat.reduceMul, List.replicate, reduceCtorEq, TB, NB, eql_some und24]
    obtain ⟨v2, q2, n2, h2, e2, o2, f1, f2, f3, f4, f5⟩ := append_mine (E := Try.prog) (t0 := 24) (t1 := 24) (bs := a.next) (d := []) app24 encB_len encB_one (OwnS.made (n := a.next + 1) (h := (a.next, Blk.cells [] true) :: a.heap) look_self (Nat.lt_succ_self _)) (Nat.le_refl _) (by omega) hv1 (by simpa using hl)
    rw [e2]
    simp -dsimp (maxSteps := 4000000) (disch := first | omega | assumption | (simp only [FB, Nat.reduceAdd]; done) | (simp only [LB]; omega)) only [EB, ↓reduceIte, WB, Nat.reduceSub, Nat.reduceAdd, Int.reduceEq, Int.reduceNe, Int.reduceLT, Int.reduceLE, Int.reduceAdd, Int.reduceSub, Int.reduceMul, Int.reduceNeg, Int.reduceToNat, Nat.reduceEqDiff, Nat.reduceLT, Nat.reduceLeDiff, Nat.reduceMul, List.replicate, reduceCtorEq, TB, NB, ]
    exact leave_own encB_flat o2 f3 fun v' n' h' x1 x2 x3 x4 _ => hK v' n' h' x1 x2 x3 fun j hj => x4 j hj
end Go.Proofs.YtpcaoohacgkeiaaAM
