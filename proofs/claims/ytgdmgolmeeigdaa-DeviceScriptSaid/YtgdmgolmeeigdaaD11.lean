/- Chapter 3: pages of one byte each. -/
import Derived.Test.YtgdmgolmeeigdaaD10
namespace Go.Proofs.YtgdmgolmeeigdaaAM
open Go Go.RowKit
set_option linter.unusedVariables false
set_option linter.unusedSimpArgs false
set_option maxRecDepth 10000
set_option maxHeartbeats 4000000

def letter (i : Nat) : UInt8 := UInt8.ofNat (97 + i)
def wrOp (i : Nat) (x : Int) : DOp := .wr (128 * (pick x 12).toNat) (rep 128 [letter i])
def opsF : Nat → List Int → List DOp
  | _, [] => []
  | i, x :: xs => wrOp i x :: opsF (i + 1) xs
theorem opsF_len : ∀ (j : Nat) (xs : List Int), (opsF j xs).length = xs.length
  | _, [] => rfl
  | j, x :: xs => by rw [opsF, List.length_cons, opsF_len (j + 1) xs]; rfl
theorem opsF_get : ∀ (j : Nat) (xs : List Int) (i : Nat), (opsF j xs)[i]? = (xs[i]?).map (wrOp (j + i))
  | _, [], i => by simp [opsF]
  | j, x :: xs, 0 => by simp [opsF]
  | j, x :: xs, i + 1 => by simp only [opsF, List.getElem?_cons_succ]; rw [opsF_get (j + 1) xs i, show j + 1 + i = j + (i + 1) by omega]
theorem opsF_take {xs : List Int} {i : Nat} {x : Int} (h : xs[i]? = some x) : (opsF 0 xs).take (i + 1) = (opsF 0 xs).take i ++ [wrOp i x] := by
  rw [List.take_add_one, opsF_get, h, Nat.zero_add]; rfl
/-- An image of whole pages, each of one byte. -/
def ex (S : List UInt8) : List UInt8 := S.flatMap fun c => List.replicate 128 c
theorem ex_append (S T : List UInt8) : ex (S ++ T) = ex S ++ ex T := List.flatMap_append
theorem ex_len : ∀ S : List UInt8, (ex S).length = 128 * S.length
  | [] => rfl
  | c :: S => by
    show (List.replicate 128 c ++ ex S).length = _
    rw [List.length_append, ex_len S, List.length_replicate, List.length_cons]; omega
theorem ex_rep (n : Nat) (c : UInt8) : ex (List.replicate n c) = List.replicate (128 * n) c := by
  induction n with
  | zero => rfl
  | succ n ih =>
    rw [List.replicate_succ]
    show List.replicate 128 c ++ ex (List.replicate n c) = _
    rw [ih, List.replicate_append_replicate, show 128 + 128 * n = 128 * (n + 1) by omega]
theorem ex_take (S : List UInt8) (n : Nat) (h : n ≤ S.length) : (ex S).take (128 * n) = ex (S.take n) := by
  have h1 : ex S = ex (S.take n) ++ ex (S.drop n) := by rw [← ex_append, List.take_append_drop]
  rw [h1, List.take_left']
  rw [ex_len, List.length_take]; congr 1; omega
theorem ex_drop (S : List UInt8) (n : Nat) (h : n ≤ S.length) : (ex S).drop (128 * n) = ex (S.drop n) := by
  have h1 : ex S = ex (S.take n) ++ ex (S.drop n) := by rw [← ex_append, List.take_append_drop]
  rw [h1, List.drop_left']
  rw [ex_len, List.length_take]; congr 1; omega
theorem ex_page (S : List UInt8) (n : Nat) (h : n < S.length) : ((ex S).drop (128 * n)).take 128 = List.replicate 128 (S.getD n 0) := by
  rw [ex_drop S n (by omega), List.drop_eq_getElem_cons h]
  show List.take 128 (List.replicate 128 S[n] ++ _) = _
  rw [List.take_left' (by simp)]
  simp [List.getD, h]
def setG (p : Nat) (c : UInt8) (S : List UInt8) : List UInt8 := (S ++ List.replicate (p + 1 - S.length) 0).set p c
theorem setG_len (p : Nat) (c : UInt8) (S : List UInt8) : (setG p c S).length = max (p + 1) S.length := by
  unfold setG; rw [List.length_set, List.length_append, List.length_replicate]; omega
theorem act_ex (p : Nat) (c : UInt8) (S : List UInt8) : (DOp.wr (128 * p) (List.replicate 128 c)).act (ex S) = ex (setG p c S) := by
  have hg : grow (128 * p + 128) (ex S) = ex (S ++ List.replicate (p + 1 - S.length) 0) := by
    unfold grow
    rw [ex_append, ex_rep, ex_len, show 128 * p + 128 - 128 * S.length = 128 * (p + 1 - S.length) by omega]
  have hp : p < (S ++ List.replicate (p + 1 - S.length) (0 : UInt8)).length := by rw [List.length_append, List.length_replicate]; omega
  show (grow (128 * p + (List.replicate 128 c).length) (ex S)).take (128 * p) ++ List.replicate 128 c ++ (grow (128 * p + (List.replicate 128 c).length) (ex S)).drop (128 * p + (List.replicate 128 c).length) = _
  rw [List.length_replicate, hg, ex_take _ _ (by omega), show 128 * p + 128 = 128 * (p + 1) by omega, ex_drop _ _ (by omega)]
  unfold setG
  rw [List.set_eq_take_append_cons_drop, if_pos hp, ex_append, List.append_assoc]
  rfl
theorem setG_get (p : Nat) (c : UInt8) (S : List UInt8) (n : Nat) : (setG p c S).getD n 0 = if n = p then c else S.getD n 0 := by
  unfold setG
  have hp : p < (S ++ List.replicate (p + 1 - S.length) (0 : UInt8)).length := by rw [List.length_append, List.length_replicate]; omega
  simp only [List.getD, List.getElem?_set]
  by_cases h : p = n
  · subst h
    simp only [if_true, hp, Option.getD_some]
  · rw [if_neg h, if_neg (Ne.symm h)]
    by_cases hn : n < S.length
    · rw [List.getElem?_append_left hn]
    · rw [List.getElem?_append_right (by omega), List.getElem?_replicate, List.getElem?_eq_none (l := S) (by omega)]
      split <;> rfl
def crashS (keep : List Int) : Nat → List Int → List UInt8 → List UInt8
  | _, [], S => S
  | i, x :: xs, S => crashS keep (i + 1) xs (if (i : Int) ∈ keep then setG (pick x 12).toNat (letter i) S else S)
theorem crash_ex (keep : List Int) : ∀ (i : Nat) (xs : List Int) (S : List UInt8), crashI keep i (opsF i xs) (ex S) = ex (crashS keep i xs S)
  | _, [], S => rfl
  | i, x :: xs, S => by
    rw [opsF, crashI, crashS]
    have : (if (i : Int) ∈ keep then (wrOp i x).act (ex S) else ex S) = ex (if (i : Int) ∈ keep then setG (pick x 12).toNat (letter i) S else S) := by
      split
      · unfold wrOp; rw [rep_one, act_ex]
      · rfl
    rw [this, crash_ex keep (i + 1) xs]
theorem crashS_len (keep : List Int) : ∀ (i : Nat) (xs : List Int) (S : List UInt8), S.length ≤ 12 → (∀ x ∈ xs, (pick x 12).toNat < 12) → (crashS keep i xs S).length ≤ 12
  | _, [], S, h, _ => h
  | i, x :: xs, S, h, hx => by
    rw [crashS]
    refine crashS_len keep (i + 1) xs _ ?_ (fun y hy => hx y (List.mem_cons_of_mem _ hy))
    have := hx x (by simp)
    split
    · rw [setG_len]; omega
    · exact h
/-- The byte of a page behind all writes that were kept. -/
def signF (keep : List Int) (n : Nat) : Nat → List Int → UInt8 → UInt8
  | _, [], s => s
  | i, x :: xs, s => signF keep n (i + 1) xs (if (i : Int) ∈ keep ∧ pick x 12 = n then letter i else s)
theorem crash_sign (keep : List Int) (n : Nat) : ∀ (i : Nat) (xs : List Int) (S : List UInt8), (∀ x ∈ xs, 0 ≤ pick x 12) → (crashS keep i xs S).getD n 0 = signF keep n i xs (S.getD n 0)
  | _, [], S, _ => rfl
  | i, x :: xs, S, hx => by
    have hx0 := hx x (by simp)
    rw [crashS, signF, crash_sign keep n (i + 1) xs _ (fun y hy => hx y (List.mem_cons_of_mem _ hy))]
    congr 1
    by_cases hk : (i : Int) ∈ keep
    · rw [if_pos hk, setG_get]
      by_cases hn : n = (pick x 12).toNat
      · rw [if_pos hn, if_pos ⟨hk, by omega⟩]
      · rw [if_neg hn, if_neg (by rintro ⟨_, h⟩; omega)]
    · rw [if_neg hk, if_neg (by rintro ⟨h, _⟩; exact hk h)]
theorem signF_step {keep : List Int} {n i : Nat} {xs : List Int} {x : Int} {s : UInt8} (h : xs[i]? = some x) : signF keep n i (xs.drop i) s = signF keep n (i + 1) (xs.drop (i + 1)) (if (i : Int) ∈ keep ∧ pick x 12 = n then letter i else s) := by
  obtain ⟨hi, e⟩ := List.getElem?_eq_some_iff.1 h
  rw [List.drop_eq_getElem_cons hi, e]
  rfl
end Go.Proofs.YtgdmgolmeeigdaaAM
