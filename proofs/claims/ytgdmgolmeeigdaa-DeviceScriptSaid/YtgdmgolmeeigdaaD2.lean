/- Chapter 3: a device's block. -/
import Derived.Test.YtgdmgolmeeigdaaD1
namespace Go.Proofs.YtgdmgolmeeigdaaAM
open Go Go.RowKit
set_option linter.unusedVariables false
set_option linter.unusedSimpArgs false
set_option maxRecDepth 10000
set_option maxHeartbeats 4000000

theorem put_twice {i : Nat} {x y : Blk} : ∀ {h : List (Nat × Blk)}, putAt i x (putAt i y h) = putAt i x h := by
  intro h
  induction h with
  | nil => rfl
  | cons p r ih =>
    obtain ⟨j, c⟩ := p
    by_cases hij : i = j
    · subst hij; rw [put_self, put_self, put_self]
    · rw [put_miss hij, put_miss hij, put_miss hij, ih]
theorem soilW_ne {bs : Nat} {d : List Nat} {i : Nat} (h : i < bs) : soilW bs d i ≠ [] := by
  unfold soilW
  rw [if_pos h]
  split
  · rename_i hc
    intro e
    rw [e] at hc
    simp at hc
  · simp
theorem leave_soil {before : AW} {vs : List Value} {n h bs} {b : Nat} : leaveA before vs ⟨n, h, bs, [b]⟩ = (vs, ⟨n, h, before.base, soilW before.base before.dirty b⟩) := rfl
theorem soil_one {n b : Nat} (h : b < n) : soilW n [] b = [b] := by simp [soilW, h]
theorem soil_same {n b : Nat} (h : b < n) : soilW n [b] b = [b] := by simp [soilW, h]
theorem soilW_own {bs : Nat} {d : List Nat} {i : Nat} (h : bs ≤ i) : soilW bs d i = d := by
  have : ¬ i < bs := by omega
  simp [soilW, this]
theorem soilAll_from {lo bs : Nat} {d : List Nat} (hd : From lo d) : ∀ {m : List Nat}, From lo m → From lo (soilAll d bs m) := by
  intro m
  induction m with
  | nil => intro _; exact hd
  | cons i m ih =>
    intro h
    have h1 := ih fun j hj => h j (by simp [hj])
    have h2 := h i (by simp)
    show From lo (if i < bs then (if (soilAll d bs m).contains i then soilAll d bs m else i :: soilAll d bs m) else soilAll d bs m)
    split
    · split
      · exact h1
      · intro j hj
        rcases List.mem_cons.1 hj with rfl | hj
        · exact h2
        · exact h1 j hj
    · exact h1
theorem soilAll_mem {bs i : Nat} {d : List Nat} (hi : i < bs) : ∀ {m : List Nat}, i ∈ m → i ∈ soilAll d bs m := by
  intro m
  induction m with
  | nil => intro h; cases h
  | cons j m ih =>
    intro h
    show i ∈ (if j < bs then (if (soilAll d bs m).contains j then soilAll d bs m else j :: soilAll d bs m) else soilAll d bs m)
    rcases List.mem_cons.1 h with rfl | h
    · rw [if_pos hi]
      split
      · rename_i hc; simpa using hc
      · simp
    · split
      · split
        · exact ih h
        · exact List.mem_cons_of_mem _ (ih h)
      · exact ih h
theorem soilAll_ne {bs i : Nat} {d : List Nat} (hi : i < bs) : ∀ {m : List Nat}, i ∈ m → soilAll d bs m ≠ [] := by
  intro m
  induction m with
  | nil => intro h; cases h
  | cons j m ih =>
    intro h
    show (if j < bs then (if (soilAll d bs m).contains j then soilAll d bs m else j :: soilAll d bs m) else soilAll d bs m) ≠ []
    rcases List.mem_cons.1 h with rfl | h
    · rw [if_pos hi]
      split
      · rename_i hc
        intro e
        rw [e] at hc
        simp at hc
      · simp
    · split
      · split
        · exact ih h
        · simp
      · exact ih h
theorem leave_dirty0 {before : AW} {vs : List Value} {n h bs d} (hd : d ≠ []) : leaveA before vs ⟨n, h, bs, d⟩ = (vs, ⟨n, h, before.base, soilAll before.dirty before.base d⟩) := by
  cases d with
  | nil => exact absurd rfl hd
  | cons i d => rfl
theorem soilW_mem {bs i : Nat} {d : List Nat} (h : i < bs) : i ∈ soilW bs d i := by
  unfold soilW
  rw [if_pos h]
  split
  · rename_i hc; simpa using hc
  · simp
def FromU (U : Nat → Prop) (d : List Nat) : Prop := ∀ j ∈ d, U j
theorem fromU_nil {U : Nat → Prop} : FromU U [] := by intro j hj; cases hj
theorem fromU_one {U : Nat → Prop} {b : Nat} (h : U b) : FromU U [b] := by intro j hj; simp at hj; rw [hj]; exact h
theorem fromU_soil {U : Nat → Prop} {bs : Nat} {d : List Nat} {i : Nat} (h : FromU U d) (hi : U i) : FromU U (soilW bs d i) := by
  unfold soilW
  split
  · split
    · exact h
    · intro j hj
      rcases List.mem_cons.1 hj with rfl | hj
      · exact hi
      · exact h j hj
  · exact h
theorem soilAll_fromU {U : Nat → Prop} {bs : Nat} {d : List Nat} (hd : FromU U d) : ∀ {m : List Nat}, FromU U m → FromU U (soilAll d bs m) := by
  intro m
  induction m with
  | nil => intro _; exact hd
  | cons i m ih =>
    intro h
    have h1 := ih fun j hj => h j (by simp [hj])
    have h2 := h i (by simp)
    show FromU U (if i < bs then (if (soilAll d bs m).contains i then soilAll d bs m else i :: soilAll d bs m) else soilAll d bs m)
    split
    · split
      · exact h1
      · intro j hj
        rcases List.mem_cons.1 hj with rfl | hj
        · exact h2
        · exact h1 j hj
    · exact h1
/-- What a device's method may have touched. -/
def Soiled (bs : Nat) (d d' : List Nat) (b q : Nat) : Prop := (bs ≤ b → bs ≤ q → d' = d) ∧ (b < bs → b ∈ d') ∧ ∀ U : Nat → Prop, U b → U q → FromU U d → FromU U d'
theorem soiled_of {bs b q : Nat} {d m : List Nat} (hm : b ∈ m) (hf : ∀ U : Nat → Prop, U b → U q → FromU U m) : Soiled bs d (soilAll d bs m) b q :=
  ⟨fun h1 h2 => soil_from (hf (fun j => bs ≤ j) h1 h2), fun h => soilAll_mem h hm, fun U h1 h2 h3 => soilAll_fromU h3 (hf U h1 h2)⟩
theorem soiled_up {bs n b q : Nat} {d d' : List Nat} (h : Soiled n [] d' b q) (hb : b < n) : d' ≠ [] ∧ Soiled bs d (soilAll d bs d') b q :=
  ⟨List.ne_nil_of_mem (h.2.1 hb), soiled_of (h.2.1 hb) fun U l1 l2 => h.2.2 U l1 l2 fromU_nil⟩
def devC (s c : Int) (im du : List UInt8) (pv : Value) (f o : Int) : List Value := [.int .i64 s, .int .i64 c, .string (mkStr im), .string (mkStr du), pv, .int .i64 f, .int .i64 o]
theorem fo64_0 : fldOff Try.prog 64 0 = some 0 := rfl
theorem fo64_1 : fldOff Try.prog 64 1 = some 1 := rfl
theorem fo64_2 : fldOff Try.prog 64 2 = some 2 := rfl
theorem fo64_3 : fldOff Try.prog 64 3 = some 3 := rfl
theorem fo64_4 : fldOff Try.prog 64 4 = some 4 := rfl
theorem fo64_5 : fldOff Try.prog 64 5 = some 5 := rfl
theorem fo64_6 : fldOff Try.prog 64 6 = some 6 := rfl
theorem spend37 (s c : Int) (im du : List UInt8) (pv : Value) (f o : Int) (hf : -1 ≤ f ∧ f ≤ 9223372036854775807) (ho : 0 ≤ o ∧ o < 1000000) (b n bs : Nat) (h : List (Nat × Blk)) (d : List Nat) (hb : look b h = some (.cells (devC s c im du pv f o) true)) (hbn : b < n) (K) :
    WCall Try.prog GV 37 [.pointer (some ⟨b, 0, none⟩)] ⟨n, h, bs, d⟩ K = (if f = 0 then K (.int .i64 8) ⟨n, h, bs, d⟩ else K (.int .i64 0) ⟨n, putAt b (.cells (devC s c im du pv (if 0 < f then f - 1 else f) (o + 1)) true) h, bs, soilW bs d b⟩) := by
  by_cases h0 : f = 0
  · rw [if_pos h0]
    refine call_eq ?_ K
    rw [call_body' Try.func37 rfl Try.ntmps37 rfl rfl]
    subst h0
    simp -dsimp (maxSteps := 4000000) (disch := first | omega | assumption | (simp only [FB, Nat.reduceAdd]; done) | (simp only [LB]; omega)) only [WB, Nat.reduceSub, Nat.reduceAdd, Int.reduceEq, Int.reduceNe, Int.reduceLT, Int.reduceLE, Int.reduceAdd, Int.reduceSub, Int.reduceMul, Int.reduceNeg, Int.reduceToNat, Nat.reduceEqDiff, Nat.reduceLT, Nat.reduceLeDiff, Nat.reduceMul, List.replicate, reduceCtorEq, op_len und9 rfl, hb, devC, op_fa fo64_0, op_fa fo64_1, op_fa fo64_2, op_fa fo64_3, op_fa fo64_4, op_fa fo64_5, op_fa fo64_6, load_one agg3, load_one agg9, load_one agg62, storeVar_eq size3, storeVar_eq size9, storeVar_eq size62, nilCheck_ptr]
    exact ⟨trivial, trivial⟩
  · rw [if_neg h0]
    refine call_eq ?_ K
    rw [call_body' Try.func37 rfl Try.ntmps37 rfl rfl]
    by_cases hp : 0 < f
    · simp -dsimp (maxSteps := 4000000) (disch := first | omega | assumption | (simp only [FB, Nat.reduceAdd]; done) | (simp only [LB]; omega)) only [WB, Nat.reduceSub, Nat.reduceAdd, Int.reduceEq, Int.reduceNe, Int.reduceLT, Int.reduceLE, Int.reduceAdd, Int.reduceSub, Int.reduceMul, Int.reduceNeg, Int.reduceToNat, Nat.reduceEqDiff, Nat.reduceLT, Nat.reduceLeDiff, Nat.reduceMul, List.replicate, reduceCtorEq, op_len und9 rfl, hb, devC, op_fa fo64_0, op_fa fo64_1, op_fa fo64_2, op_fa fo64_3, op_fa fo64_4, op_fa fo64_5, op_fa fo64_6, load_one agg3, load_one agg9, load_one agg62, storeVar_eq size3, storeVar_eq size9, storeVar_eq size62, h0, hp, wrap64, write_soil, if_true]
      rw [soil_one hbn, soil_same hbn, leave_soil, put_twice]
      exact ⟨rfl, rfl⟩
    · simp -dsimp (maxSteps := 4000000) (disch := first | omega | assumption | (simp only [FB, Nat.reduceAdd]; done) | (simp only [LB]; omega)) only [WB, Nat.reduceSub, Nat.reduceAdd, Int.reduceEq, Int.reduceNe, Int.reduceLT, Int.reduceLE, Int.reduceAdd, Int.reduceSub, Int.reduceMul, Int.reduceNeg, Int.reduceToNat, Nat.reduceEqDiff, Nat.reduceLT, Nat.reduceLeDiff, Nat.reduceMul, List.replicate, reduceCtorEq, op_len und9 rfl, hb, devC, op_fa fo64_0, op_fa fo64_1, op_fa fo64_2, op_fa fo64_3, op_fa fo64_4, op_fa fo64_5, op_fa fo64_6, load_one agg3, load_one agg9, load_one agg62, storeVar_eq size3, storeVar_eq size9, storeVar_eq size62, h0, hp, wrap64, write_soil, if_false]
      rw [soil_one hbn, leave_soil]
      exact ⟨rfl, rfl⟩
end Go.Proofs.YtgdmgolmeeigdaaAM
