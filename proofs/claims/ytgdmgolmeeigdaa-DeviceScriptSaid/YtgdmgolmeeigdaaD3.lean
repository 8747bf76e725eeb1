/- Chapter 3: a device, and what is pending. -/
import Derived.Test.YtgdmgolmeeigdaaD2
namespace Go.Proofs.YtgdmgolmeeigdaaAM
open Go Go.RowKit
set_option linter.unusedVariables false
set_option linter.unusedSimpArgs false
set_option maxRecDepth 10000
set_option maxHeartbeats 4000000

theorem app62 : appOk Try.prog 62 62 1 = true := by decide +kernel
theorem sl62 : slOk Try.prog 62 1 = true := by decide +kernel
/-- A function that does an operation: what it holds lies among blocks of the device's own. -/
def Rep (h : List (Nat × Blk)) (S : Nat → Prop) (fv : Value) (o : DOp) : Prop := match o with
  | .wr f bl => ∃ x y z, fv = .func (.func 34) #[] #[.pointer (some ⟨x, 0, none⟩), .pointer (some ⟨y, 0, none⟩), .pointer (some ⟨z, 0, none⟩)] ∧ look x h = some (.cells [.int .i64 ((f + bl.length : Nat) : Int)] true) ∧ look y h = some (.cells [.int .i64 f] true) ∧ look z h = some (.cells [.string (mkStr bl)] true) ∧ S x ∧ S y ∧ S z
  | .tr t => ∃ x, fv = .func (.func 36) #[] #[.pointer (some ⟨x, 0, none⟩)] ∧ look x h = some (.cells [.int .i64 t] true) ∧ S x
theorem Rep.keep {h h' : List (Nat × Blk)} {S S' : Nat → Prop} {fv : Value} {o : DOp} (hr : Rep h S fv o) (hs : ∀ j, S j → S' j) (hh : ∀ j, S j → look j h' = look j h) : Rep h' S' fv o := by
  cases o with
  | wr f bl =>
    obtain ⟨x, y, z, e, h1, h2, h3, s1, s2, s3⟩ := hr
    exact ⟨x, y, z, e, by rw [hh x s1]; exact h1, by rw [hh y s2]; exact h2, by rw [hh z s3]; exact h3, hs x s1, hs y s2, hs z s3⟩
  | tr t =>
    obtain ⟨x, e, h1, s1⟩ := hr
    exact ⟨x, e, by rw [hh x s1]; exact h1, hs x s1⟩
theorem Rep.call {h : List (Nat × Blk)} {S : Nat → Prop} {fv : Value} {o : DOp} (hr : Rep h S fv o) (ho : o.lim ≤ 1000000) {im : List UInt8} (hl : im.length ≤ 1000000) {n bs : Nat} {d : List Nat} (hn : ∀ j, S j → j < n) :
    ∃ f cs, fv = .func (.func f) #[] cs.toArray ∧ ∀ K, WCall Try.prog GV f (.string (mkStr im) :: cs) ⟨n, h, bs, d⟩ K = K (.string (mkStr (o.act im))) ⟨n, h, bs, d⟩ := by
  cases o with
  | wr f bl =>
    obtain ⟨x, y, z, rfl, h1, h2, h3, s1, s2, s3⟩ := hr
    exact ⟨34, _, rfl, close34 f bl im x y z n bs h d h1 h2 h3 ⟨hn x s1, hn y s2, hn z s3⟩ hl ho⟩
  | tr t =>
    obtain ⟨x, rfl, h1, s1⟩ := hr
    exact ⟨36, _, rfl, close36 t im x n bs h d h1 (hn x s1)⟩
theorem Rep.shape {h : List (Nat × Blk)} {S : Nat → Prop} {fv : Value} {o : DOp} (hr : Rep h S fv o) : ∃ f cs, fv = .func (.func f) #[] (List.toArray cs) := by
  cases o with
  | wr f bl => obtain ⟨x, y, z, rfl, _⟩ := hr; exact ⟨34, _, rfl⟩
  | tr t => obtain ⟨x, rfl, _⟩ := hr; exact ⟨36, _, rfl⟩
/-- What is pending: nothing, or a block of its own. -/
def Pend (h : List (Nat × Blk)) (q : Nat) (pv : Value) (fs : List Value) : Prop :=
  (pv = .slice none 0 0 ∧ fs = []) ∨ (pv = .slice (some ⟨q, 0, some 2⟩) fs.length fs.length ∧ fs ≠ [] ∧ look q h = some (.cells fs true))
structure Dv where
  s : Int
  c : Int
  im : List UInt8
  du : List UInt8
  ops : List DOp
  f : Int
  o : Int
/-- A device as it stands: its block b, its list's block q, what its functions hold. -/
structure DevS (h : List (Nat × Blk)) (n : Nat) (b q : Nat) (S : Nat → Prop) (D : Dv) : Prop where
  st : ∃ (pv : Value) (fs : List Value), look b h = some (.cells (devC D.s D.c D.im D.du pv D.f D.o) true) ∧ Pend h q pv fs ∧ fs.length = D.ops.length ∧ ∀ (i : Nat) (fv : Value) (o : DOp), fs[i]? = some fv → D.ops[i]? = some o → Rep h S fv o
  bq : b ≠ q
  bS : ¬ S b
  qS : ¬ S q
  lt : b < n ∧ q < n ∧ ∀ j, S j → j < n
  fu : -1 ≤ D.f ∧ D.f ≤ 9223372036854775807
  no : 0 ≤ D.o
  im : D.im.length ≤ 1000000
  du : D.du.length ≤ 1000000
  op : ∀ o ∈ D.ops, o.lim ≤ 1000000
theorem DevS.more {h h' : List (Nat × Blk)} {n n' b q : Nat} {S S' : Nat → Prop} {D : Dv} (hd : DevS h n b q S D) (hn : n ≤ n') (hh : ∀ j, j < n → look j h' = look j h) (hs : ∀ j, S j → S' j) (hs2 : ∀ j, S' j → S j ∨ (n ≤ j ∧ j < n')) : DevS h' n' b q S' D := by
  obtain ⟨⟨pv, fs, hb, hp, hfl, hrep⟩, hbq, hbS, hqS, ⟨hbn, hqn, hSn⟩, hfu, hno0, him, hdu, hop⟩ := hd
  refine ⟨⟨pv, fs, by rw [hh b hbn]; exact hb, ?_, hfl, fun i fv o e1 e2 => (hrep i fv o e1 e2).keep hs fun j hj => hh j (hSn j hj)⟩, hbq, ?_, ?_, ⟨by omega, by omega, ?_⟩, hfu, hno0, him, hdu, hop⟩
  · rcases hp with hp | ⟨e1, e2, e3⟩
    · exact .inl hp
    · exact .inr ⟨e1, e2, by rw [hh q hqn]; exact e3⟩
  · intro h; rcases hs2 b h with h | h
    · exact hbS h
    · omega
  · intro h; rcases hs2 q h with h | h
    · exact hqS h
    · omega
  · intro j hj; rcases hs2 j hj with h | h
    · have := hSn j h; omega
    · omega
/-- What lies outside of a device is left as it is. -/
def Out (h h' : List (Nat × Blk)) (n b q : Nat) : Prop := ∀ j, j < n → j ≠ b → j ≠ q → look j h' = look j h
/-- One function more that is pending. -/
theorem pend_app {h : List (Nat × Blk)} {q n bs : Nat} {d : List Nat} {pv fv : Value} {fs : List Value} (hp : Pend h q pv fs) (hq : q < n) (hf1 : fv.oneCell' = true) (hall : fs.all Value.oneCell' = true) (hl : fs.length < 100000) {m : Nat} (hm : m < n) (hm2 : look m h = some (.cells [fv] true)) (hmq : m ≠ q) :
    ∃ q' h' d', builtinA Try.prog .append #[62, 62] [pv, .slice (some ⟨m, 0, some 0⟩) 1 1] ⟨n, h, bs, d⟩ = some (.slice (some ⟨q', 0, some 2⟩) (fs ++ [fv]).length (fs ++ [fv]).length, ⟨n + 1, h', bs, d'⟩) ∧ n ≤ q' ∧ q' < n + 1 ∧ look q' h' = some (.cells (fs ++ [fv]) true) ∧ (∀ j, j < n → j ≠ q → look j h' = look j h) ∧ (d' = d ∨ d' = soilW bs d q) := by
  have hc : cellsAt (AW.get ⟨n, h, bs, d⟩ m) 0 (1 * 1) = some [fv] := by rw [get_mk, hm2, cellsAt_cells (by simp)]; rfl
  rcases hp with ⟨rfl, rfl⟩ | ⟨rfl, hne, hqc⟩
  · refine ⟨n, (n, .cells [fv] true) :: h, d, ?_, Nat.le_refl _, by omega, by simp [look], fun j h1 h2 => look_miss (by omega), .inl rfl⟩
    rw [wp_append_nil (q := ⟨m, 0, some 0⟩) (new := [fv]) app62 rfl (by omega) (by omega) hc (by simp [hf1])]
    rfl
  · have hw : cellsAt (AW.get ⟨n, h, bs, d⟩ q) 0 (fs.length * 1) = some fs := by
      rw [get_mk, hqc, cellsAt_cells (by omega), List.drop_zero, Nat.mul_one, List.take_length]
    refine ⟨n, (n, .cells (fs ++ [fv]) true) :: kill q h, soilW bs d q, ?_, Nat.le_refl _, by omega, by simp [look], ?_, .inr rfl⟩
    · rw [wp_append_grown (a := ⟨n, h, bs, d⟩) (o := 0) (q := ⟨m, 0, some 0⟩) (was := fs) (new := [fv]) app62 rfl (by omega) (by omega) hw hc (by simp [hf1])]
      rw [drop_soil, List.length_append]
      rfl
    · intro j h1 h2
      rw [look_miss (by omega), look_wkill_ne h2]
theorem do33 (D : Dv) (o : DOp) (fv : Value) (ho : o.lim ≤ 1000000) (hno : D.o < 100000) (hlen : D.ops.length < 100000) {h : List (Nat × Blk)} {n bs b q : Nat} {d : List Nat} {S : Nat → Prop} (hd : DevS h n b q S D) (hr : Rep h S fv o) (K : Value → AW → Prop)
    (hK : D.f = 0 → K (.int .i64 8) ⟨n, h, bs, d⟩)
    (hK2 : D.f ≠ 0 → ∀ n' h' q' d', Soiled bs d d' b q → (q' = q ∨ n ≤ q') → n ≤ n' → DevS h' n' b q' S { D with im := o.act D.im, ops := D.ops ++ [o], f := if 0 < D.f then D.f - 1 else D.f, o := D.o + 1 } → Out h h' n b q → K (.int .i64 0) ⟨n', h', bs, d'⟩) :
    WCall Try.prog GV 33 [.pointer (some ⟨b, 0, none⟩), fv] ⟨n, h, bs, d⟩ K := by
  rw [call_body' Try.func33 rfl Try.ntmps33 rfl rfl]
  obtain ⟨⟨pv, fs, hb, hp, hfl, hrep⟩, hbq, hbS, hqS, ⟨hbn, hqn, hSn⟩, hfu, hno0, him, hdu, hop⟩ := hd
  obtain ⟨D1, D2, D3, D4, D5, D6, D7⟩ := D
  simp only at *
  by_cases h0 : D6 = 0
  · simp -dsimp (maxSteps := 4000000) (disch := first | omega | assumption | (simp only [FB, Nat.reduceAdd]; done) | (simp only [LB]; omega)) only [WB, Nat.reduceSub, Nat.reduceAdd, Int.reduceEq, Int.reduceNe, Int.reduceLT, Int.reduceLE, Int.reduceAdd, Int.reduceSub, Int.reduceMul, Int.reduceNeg, Int.reduceToNat, Nat.reduceEqDiff, Nat.reduceLT, Nat.reduceLeDiff, Nat.reduceMul, List.replicate, reduceCtorEq, op_len und9 rfl, spend37 D1 D2 D3 D4 pv D6 D7 hfu ⟨hno0, by omega⟩ b n n h [] hb hbn, h0, if_true]
    exact hK h0
  · obtain ⟨cf, cs, rfl⟩ := hr.shape
    obtain ⟨f', hf'⟩ : ∃ f' : Int, (if 0 < D6 then D6 - 1 else D6) = f' := ⟨_, rfl⟩
    have hq0 := soil_one hbn
    simp -dsimp (maxSteps := 4000000) (disch := first | omega | assumption | (simp only [FB, Nat.reduceAdd]; done) | (simp only [LB]; omega)) only [WB, Nat.reduceSub, Nat.reduceAdd, Int.reduceEq, Int.reduceNe, Int.reduceLT, Int.reduceLE, Int.reduceAdd, Int.reduceSub, Int.reduceMul, Int.reduceNeg, Int.reduceToNat, Nat.reduceEqDiff, Nat.reduceLT, Nat.reduceLeDiff, Nat.reduceMul, List.replicate, reduceCtorEq, op_len und9 rfl, spend37 D1 D2 D3 D4 pv D6 D7 hfu ⟨hno0, by omega⟩ b n n h [] hb hbn, h0, if_false, hf', hq0, op_fa fo64_0, op_fa fo64_1, op_fa fo64_2, op_fa fo64_3, op_fa fo64_4, op_fa fo64_5, op_fa fo64_6, load_one agg3, load_one agg9, load_one agg62, storeVar_eq size3, storeVar_eq size9, storeVar_eq size62, devC, hb, buildSl1 sl62]
    have hone : fs.all Value.oneCell' = true := by
      rw [List.all_eq_true]
      intro v hv
      obtain ⟨i, hi, e⟩ := List.getElem_of_mem hv
      obtain ⟨cf', cs', e'⟩ := (hrep i v D5[i] (by rw [List.getElem?_eq_getElem hi, e]) (List.getElem?_eq_getElem (by omega))).shape
      rw [e']; rfl
    have hp2 : Pend ((n, Blk.cells [Value.func (Fn.func cf) #[] cs.toArray] true) :: putAt b (Blk.cells [Value.int IntKind.i64 D1, Value.int IntKind.i64 D2, Value.string (mkStr D3), Value.string (mkStr D4), pv, Value.int IntKind.i64 f', Value.int IntKind.i64 (D7 + 1)] true) h) q pv fs := by
      rcases hp with hp | ⟨e1, e2, e3⟩
      · exact .inl hp
      · exact .inr ⟨e1, e2, by rw [look_miss (by omega), look_wput_ne (Ne.symm hbq)]; exact e3⟩
    obtain ⟨q', h', d', e1, hq1, hq2, hq3, hq4, hd'⟩ := pend_app (n := n + 1) (bs := n) (d := [b]) (m := n) hp2 (by omega) rfl hone (by omega) (by omega) look_self (by omega)
    rw [e1]
    have hout : ∀ j, j < n → j ≠ b → j ≠ q → look j h' = look j h := by
      intro j j1 j2 j3
      rw [hq4 j (by omega) j3, look_miss (by omega), look_wput_ne j2]
    have hb' : look b h' = some (.cells [Value.int IntKind.i64 D1, Value.int IntKind.i64 D2, Value.string (mkStr D3), Value.string (mkStr D4), pv, Value.int IntKind.i64 f', Value.int IntKind.i64 (D7 + 1)] true) := by
      rw [hq4 b (by omega) hbq, look_miss (by omega), look_wput_self, hb]; rfl
    have hSk : ∀ j, S j → j ≠ b ∧ j ≠ q ∧ j < n := fun j hj => ⟨fun e => hbS (e ▸ hj), fun e => hqS (e ▸ hj), hSn j hj⟩
    have hfrom : ∀ U : Nat → Prop, U b → U q → FromU U d' := by
      intro lo l1 l2
      have hb0 := fromU_one l1
      rcases hd' with rfl | rfl
      · exact hb0
      · exact fromU_soil hb0 l2
    simp -dsimp (maxSteps := 4000000) (disch := first | omega | assumption | (simp only [FB, Nat.reduceAdd]; done) | (simp only [LB]; omega)) only [WB, Nat.reduceSub, Nat.reduceAdd, Int.reduceEq, Int.reduceNe, Int.reduceLT, Int.reduceLE, Int.reduceAdd, Int.reduceSub, Int.reduceMul, Int.reduceNeg, Int.reduceToNat, Nat.reduceEqDiff, Nat.reduceLT, Nat.reduceLeDiff, Nat.reduceMul, List.replicate, reduceCtorEq, op_len und9 rfl, op_fa fo64_0, op_fa fo64_1, op_fa fo64_2, op_fa fo64_3, op_fa fo64_4, op_fa fo64_5, op_fa fo64_6, load_one agg3, load_one agg9, load_one agg62, storeVar_eq size3, storeVar_eq size9, storeVar_eq size62, hb', write_soil, List.length_append]
    generalize hh2 : putAt b (Blk.cells [Value.int IntKind.i64 D1, Value.int IntKind.i64 D2, Value.string (mkStr D3), Value.string (mkStr D4), .slice (some ⟨q', 0, some 2⟩) (fs.length + 1) (fs.length + 1), Value.int IntKind.i64 f', Value.int IntKind.i64 (D7 + 1)] true) h' = h2
    have hb2 : look b h2 = some (.cells [Value.int IntKind.i64 D1, Value.int IntKind.i64 D2, Value.string (mkStr D3), Value.string (mkStr D4), .slice (some ⟨q', 0, some 2⟩) (fs.length + 1) (fs.length + 1), Value.int IntKind.i64 f', Value.int IntKind.i64 (D7 + 1)] true) := by
      rw [← hh2, look_wput_self, hb']; rfl
    have hS2 : ∀ j, S j → look j h2 = look j h := by
      intro j hj
      obtain ⟨j1, j2, j3⟩ := hSk j hj
      rw [← hh2, look_wput_ne j1, hout j j3 j1 j2]
    obtain ⟨cf', cs', e, hcall⟩ := (hr.keep (S' := S) (fun j hj => hj) hS2).call ho him (n := n + 2) (bs := n) (d := soilW n d' b) (fun j hj => by have := hSn j hj; omega)
    simp only [Value.func.injEq, Fn.func.injEq, true_and] at e
    obtain ⟨rfl, e⟩ := e
    obtain rfl : cs = cs' := by simpa using e
    simp -dsimp (maxSteps := 4000000) (disch := first | omega | assumption | (simp only [FB, Nat.reduceAdd]; done) | (simp only [LB]; omega)) only [WB, Nat.reduceSub, Nat.reduceAdd, Int.reduceEq, Int.reduceNe, Int.reduceLT, Int.reduceLE, Int.reduceAdd, Int.reduceSub, Int.reduceMul, Int.reduceNeg, Int.reduceToNat, Nat.reduceEqDiff, Nat.reduceLT, Nat.reduceLeDiff, Nat.reduceMul, List.replicate, reduceCtorEq, op_len und9 rfl, hcall, op_fa fo64_0, op_fa fo64_1, op_fa fo64_2, op_fa fo64_3, op_fa fo64_4, op_fa fo64_5, op_fa fo64_6, load_one agg3, load_one agg9, load_one agg62, storeVar_eq size3, storeVar_eq size9, storeVar_eq size62, hb2, write_soil]
    have hne : soilW n (soilW n d' b) b ≠ [] := soilW_ne hbn
    rw [leave_dirty0 hne]
    refine hK2 h0 (n + 2) _ q' _ (soiled_of (soilW_mem hbn) fun lo l1 l2 => fromU_soil (fromU_soil (hfrom lo l1 l2) l1) l1) (.inr (by omega)) (by omega) ?_ ?_
    · refine ⟨⟨.slice (some ⟨q', 0, some 2⟩) (fs.length + 1) (fs.length + 1), fs ++ [.func (.func cf) #[] cs.toArray], ?_, ?_, ?_, ?_⟩, by omega, hbS, ?_, ⟨by omega, by omega, fun j hj => by have := hSn j hj; omega⟩, ?_, by simp only; omega, ?_, hdu, ?_⟩
      · rw [look_wput_self, hb2]; simp only [hf']; rfl
      · refine .inr ⟨by rw [List.length_append]; rfl, by simp, ?_⟩
        rw [look_wput_ne (by omega), ← hh2, look_wput_ne (by omega)]; exact hq3
      · rw [List.length_append, List.length_append, hfl]; rfl
      · intro i fv o' e1 e2
        have hgo : ∀ {fv o''} (X : Blk), Rep h S fv o'' → Rep (putAt b X h2) S fv o'' := fun X hr => hr.keep (fun j hj => hj) (fun j hj => by rw [look_wput_ne (hSk j hj).1]; exact hS2 j hj)
        by_cases hi : i < fs.length
        · rw [List.getElem?_append_left hi] at e1
          rw [List.getElem?_append_left (by omega)] at e2
          exact hgo _ (hrep i fv o' e1 e2)
        · rw [List.getElem?_append_right (by omega)] at e1
          rw [List.getElem?_append_right (by omega)] at e2
          have hi0 : i - fs.length = 0 := by
            rcases Nat.eq_zero_or_pos (i - fs.length) with h | h
            · exact h
            · rw [List.getElem?_eq_none (by simp; omega)] at e1; cases e1
          rw [hi0] at e1
          rw [show i - D5.length = 0 by omega] at e2
          cases e1
          cases e2
          exact hgo _ hr
      · intro hq; have := hSn q' hq; omega
      · simp only [hf']; have := hfu; rw [← hf']; split <;> omega
      · have := act_len o D3; simp only; omega
      · intro o' ho'
        rcases List.mem_append.1 ho' with h | h
        · exact hop o' h
        · simp at h; rw [h]; exact ho
    · intro j j1 j2 j3
      rw [look_wput_ne j2, ← hh2, look_wput_ne j2]
      exact hout j j1 j2 j3
end Go.Proofs.YtgdmgolmeeigdaaAM
