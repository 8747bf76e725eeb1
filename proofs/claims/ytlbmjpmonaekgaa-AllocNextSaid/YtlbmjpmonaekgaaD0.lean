/- Chapter 14: slices.Insert. -/
import Derived.Test.YtlbmjpmonaekgaaT0
namespace Go.Proofs.YtlbmjpmonaekgaaAM
open Go Go.RowKit
set_option linter.unusedVariables false
set_option linter.unusedSimpArgs false
set_option maxRecDepth 10000
set_option maxHeartbeats 4000000

/-- What is known of calls that ask nothing: the chapter's example. -/
def kLives : Known := ⟨9, #[], .bool true⟩
theorem lives_holds : kLives.Holds Try.prog :=
  known_more mixed plain (l := []) (by intro k hk; cases hk) Try.func9 (by kernel_rfl) (n := 10000) rfl rfl (by kernel_rfl)
theorem known_all : ∀ k ∈ [kLives], k.Holds Try.prog := by
  intro k hk
  simp only [List.mem_singleton] at hk
  subst hk
  exact lives_holds
abbrev G0 : Gives := overG 48 (memo [kLives])
theorem insert_end (cs new : List Value) (n : Nat) (h : cs.length = n) : insertAt 1 n cs new = cs ++ new := by
  unfold insertAt
  rw [Nat.mul_one, ← h, List.take_length, List.drop_length, List.append_nil]
theorem over48 {p q : Addr} {n c m d : Nat} (a : AW) (hne : p.block ≠ q.block) (hn : n ≠ 0) (hm : m ≠ 0) {cs ds : List Value} {rw_ : Bool} {k : Nat} (hcs : cs ≠ []) (hds : ds ≠ []) (hp : look p.block a.heap = some (.cells cs rw_)) (hq : look q.block a.heap = some (.holey ds k)) (K) :
    WCall Try.prog G0 48 [.slice (some p) n c, .slice (some q) m d] a K = K (.bool false) a := by
  cases cs with
  | nil => exact absurd rfl hcs
  | cons x xs => cases ds with
    | nil => exact absurd rfl hds
    | cons y ys =>
      refine call_given ?_
      have hc : ¬ (p.block = q.block ∨ n = 0 ∨ m = 0) := by simp [hne, hn, hm]
      have hp' : a.get p.block = some (.cells (x :: xs) rw_) := hp
      have hq' : a.get q.block = some (.holey (y :: ys) k) := hq
      simp only [given, G0, overG, if_true, overlapsG, hc, if_false, hp', hq']
theorem copy_raw {E : Program} {t0 t1 e : TypeId} {z : Nat} (hel : elemCells E t0 = some (e, z)) {p q : Addr} {n c m d : Nat} {a a' : AW} {vs : List Value} (hl : a.loadN q (Nat.min m n * z) = some vs) (hs : a.storeN p vs = some a') :
    builtinA E .copy #[t0, t1] [.slice (some p) n c, .slice (some q) m d] a = some (.int .i64 (Nat.min m n : Nat), a') := by
  show copyA E #[t0, t1] _ _ a = _
  have e0 : (#[t0, t1] : Array TypeId)[0]? = some t0 := rfl
  simp only [copyA, e0, hel, lenA, firstA, hl, hs]
theorem ne10 : ¬ (((1 : Nat) : Int) = 0) := by decide
theorem loadN_at {a : AW} {p : Addr} {n : Nat} {c : List Value} {r : Bool} (h : a.get p.block = some (.cells c r)) (hl : p.off + n ≤ c.length) : a.loadN p n = some ((c.drop p.off).take n) := by
  simp only [AW.loadN, h]
  rw [if_pos hl]
theorem row_at {q n d N b : Nat} {sp : Option Nat} {h : List (Nat × Blk)} {ds : List Nat} {c : List Value} {r : Bool} (hg : look q h = some (.cells c r)) (hl : c.length = n) : sliceCells 1 (.slice (some ⟨q, 0, sp⟩) n d) ⟨N, h, b, ds⟩ = some c := by
  rw [sliceCells_at (a := ⟨N, h, b, ds⟩) (p := ⟨q, 0, sp⟩) hg (by simp only; omega), List.drop_zero, Nat.mul_one, ← hl, List.take_length]
theorem z00 : (((0 : Nat) : Int)) = (0 : Int) := rfl
theorem op_cap {E : Program} {G : Gives} {t : List Value} {a : AW} {K : Value → AW → Prop} {x : Operand} {ty e : TypeId} (h : E.underlying ty = some (.slice e)) :
    WOp E G (.call ⟨.builtin .cap, #[x], #[ty]⟩) t a K = WVal (evalA t x) fun v => WVal (pureBuiltinA E .cap #[ty] [v]) fun r => K r a := by
  have hk : kindO E (oper (.call ⟨.builtin .cap, #[x], #[ty]⟩)) = .pure := rfl
  rw [op_pure hk]
  simp only [pureA, oper, evals_cons, evals_nil]
  cases evalA t x with
  | none => rfl
  | some v => rfl
theorem cap25 {p : Addr} {n c : Nat} (h : p.spot = some 0) : pureBuiltinA Try.prog .cap #[25] [.slice (some p) n c] = some (.int .i64 c) := by
  have : ((#[25] : Array TypeId)[0]?).bind Try.prog.underlying = some (.slice 27) := und25
  rw [pureB_eq (by rfl)]
  simp only [pureB0, this, h, if_true]
theorem sl_lo {p o n c i : Nat} {sp : Option Nat} {j : Int} (hj : j = i) (hsp : sp = none ∨ sp = some 0 ∨ sp = some 2) (hi : i ≤ n) : sliceA Try.prog 25 (.slice (some ⟨p, o, sp⟩) n c) (some (.int .i64 j)) none none = some (.slice (some ⟨p, if sp = some 0 ∧ c = i then o else o + i, sp⟩) (n - i) (c - i)) := by
  subst hj
  have := slice_at (E := Try.prog) und25 size27 (p := ⟨p, o, sp⟩) (len := n) (cap := c) hsp (bnd_lo (k := .i64) (i := (i : Int)) (by omega) (by omega))
  rw [Int.toNat_natCast, Nat.mul_one] at this
  exact this
theorem sl_hi {p o n c i : Nat} {sp : Option Nat} {j : Int} (hj : j = i) (hsp : sp = none ∨ sp = some 0 ∨ sp = some 2) (hi : i ≤ c) : sliceA Try.prog 25 (.slice (some ⟨p, o, sp⟩) n c) none (some (.int .i64 j)) none = some (.slice (some ⟨p, o, sp⟩) i c) := by
  subst hj
  have := slice_at (E := Try.prog) und25 size27 (p := ⟨p, o, sp⟩) (len := n) (cap := c) hsp (bnd_hi (k := .i64) (i := (i : Int)) (by omega) (by omega))
  rw [Int.toNat_natCast] at this
  simpa using this
theorem copy25 {N b n c m d k : Nat} {p q : Addr} {h : List (Nat × Blk)} {ds : List Nat} {cp cq : List Value} {r : Bool} (hp : look p.block h = some (.cells cp true)) (hq : look q.block h = some (.cells cq r)) (hk : Nat.min m n = k) (hl : q.off + k ≤ cq.length) (hd : p.off + k ≤ cp.length) (ho : cq.all Value.oneCell' = true) :
    builtinA Try.prog .copy #[25, 25] [.slice (some p) n c, .slice (some q) m d] ⟨N, h, b, ds⟩ = some (.int .i64 k, ⟨N, putAt p.block (.cells (cp.take p.off ++ (((cq.drop q.off).take (k)) ++ cp.drop (p.off + k))) true) h, b, soilW b ds p.block⟩) := by
  have hlen : ((cq.drop q.off).take (k)).length = k := by rw [List.length_take, List.length_drop]; omega
  have hall : ((cq.drop q.off).take (k)).all Value.oneCell' = true := by
    rw [List.all_eq_true] at ho ⊢
    exact fun u hu => ho u (List.mem_of_mem_drop (List.mem_of_mem_take hu))
  rw [copy_raw (E := Try.prog) elem25 (vs := (cq.drop q.off).take (k)) (a' := ⟨N, putAt p.block (.cells (cp.take p.off ++ (((cq.drop q.off).take (k)) ++ cp.drop (p.off + k))) true) h, b, soilW b ds p.block⟩), hk]
  · rw [hk, Nat.mul_one]; exact loadN_at hq hl
  · have hp' : (⟨N, h, b, ds⟩ : AW).get p.block = some (.cells cp true) := hp
    simp only [AW.storeN, hp']
    rw [if_pos ⟨by rw [hlen]; omega, hall⟩, hlen]
    rfl
theorem sl_four {p n c i : Nat} {j : Int} (hj : j = i) (hi : i ≤ n) : sliceA Try.prog 25 (.slice (some ⟨p, 0, some 2⟩) n c) (some (.int .i64 j)) none none = some (.slice (some ⟨p, i, some 2⟩) (n - i) (c - i)) := by
  have := sl_lo (p := p) (o := 0) (sp := some 2) (n := n) (c := c) hj (.inr (.inr rfl)) hi
  rw [if_neg (by simp), Nat.zero_add] at this; exact this
theorem sl_zero {p n c i : Nat} {j : Int} (hj : j = i) (hi : i ≤ n) (hc : i < c) : sliceA Try.prog 25 (.slice (some ⟨p, 0, some 0⟩) n c) (some (.int .i64 j)) none none = some (.slice (some ⟨p, i, some 0⟩) (n - i) (c - i)) := by
  have := sl_lo (p := p) (o := 0) (sp := some 0) (n := n) (c := c) hj (.inr (.inl rfl)) hi
  rw [if_neg (by omega), Nat.zero_add] at this; exact this
theorem zeros25 {p N b i n k : Nat} {h : List (Nat × Blk)} {ds : List Nat} {cs : List Value} {r : Bool} {j : Int} (hj : j = k) (hg : look p h = some (.cells cs r)) (hl : i ≤ cs.length) (hb : i + k ≤ 1000000) (hc : n < i + k) :
    ∃ Z, Z.length = k ∧ builtinA Try.prog .append #[25, 3] [.slice (some ⟨p, 0, some 0⟩) i n, .int .i64 j] ⟨N, h, b, ds⟩ = some (.slice (some ⟨N, 0, some 2⟩) (i + k) (i + k), ⟨N + 1, (N, .cells (cs.take (i) ++ Z) true) :: h, b, ds⟩) := by
  subst hj
  obtain ⟨zv, hz, hzl⟩ : ∃ zv, zeroV Try.prog 27 = some zv ∧ zv.cells.toList.length = 1 := ⟨_, z27, rfl⟩
  refine ⟨(List.replicate k zv.cells.toList).flatten, by rw [flat_len, hzl, Nat.mul_one], ?_⟩
  simp only [builtinA]
  have e0 : (#[25, 3] : Array TypeId)[0]? = some 25 := rfl
  have e1 : (#[25, 3] : Array TypeId)[1]? = some 3 := rfl
  have hi : (Try.prog.info? 27).any (fun i => decide (i.bytes ≤ 1000000)) = true := by decide +kernel
  have hi2 : (Try.prog.info? 27).any (fun I => decide (((i + k) + (i + k) / 2 + 1000) * I.bytes ≤ 281474976710656 ∧ i + k ≤ 4611686018427387904)) = true := by
    cases hI : Try.prog.info? 27 with
    | none => rw [hI] at hi; cases hi
    | some I =>
      rw [hI] at hi
      simp only [Option.any_some, decide_eq_true_eq] at hi ⊢
      have := Nat.mul_le_mul (show (i + k) + (i + k) / 2 + 1000 ≤ 2001000 by omega) hi
      exact ⟨by omega, by omega⟩
  have hld : AW.loadN ⟨N, h, b, ds⟩ ⟨p, 0, some 0⟩ (i) = some (cs.take (i)) := by
    rw [loadN_at (a := ⟨N, h, b, ds⟩) (p := ⟨p, 0, some 0⟩) hg (by simp only; omega), List.drop_zero]
  have hzs : (zv.cells.size == 1) = true := by rw [← Array.length_toList, hzl]; rfl
  simp only [appendA, e0, e1, elem25, und3, zerosA, firstA, hld, hz, hi2, hzs, Int.toNat_natCast]
  rw [if_pos ⟨trivial, by omega, by omega, hc⟩]
  have hzs2 : zv.cells.size = 1 := by simpa using hzs
  simp [growA, AW.new, hld, hzs2]
theorem walks_nil (q : Nat) (sp : Option Nat) (d : Nat) (a : AW) (new : List Value) (hq : q < a.next) (hg : a.get q = some (.cells new true)) (hnz : new.length = 1) (hno : new.all Value.oneCell' = true) (hnf : new.all flat = true) :
    WCall Try.prog G0 33 [.slice none 0 0, .int .i64 0, .slice (some ⟨q, 0, sp⟩) 1 d] a fun v b => (v, b) = growA 1 1 new a := by
  rw [call_env Try.func33 rfl Try.ntmps33 rfl rfl (by simp)]
  have hs0 : sliceA Try.prog 25 (.slice none 0 0) (some (.int .i64 0)) none none = some (.slice none 0 0) := by
    have := slice_nil (E := Try.prog) (ty := 25) und25 size27 (len := 0) (cap := 0) (bnd_lo (k := .i64) (i := 0) (by omega) (by omega))
    simpa using this
  have hx : sliceCells 1 (.slice (some ⟨q, 0, sp⟩) 1 d) ⟨a.next, a.heap, a.next, []⟩ = some new := row_at hg hnz
  have hap := append_nil (E := Try.prog) (t0 := 25) (t1 := 25) (z := 1) (a := ⟨a.next, a.heap, a.next, []⟩) (cp := 0) app25 (n := 1) rfl hx (by omega) (by omega) hno
  simp -dsimp (maxSteps := 4000000) (disch := first | omega | assumption | (simp only [FB, Nat.reduceAdd]; done) | (simp only [LB]; omega)) only [EB, ↓reduceIte, WB, Nat.reduceSub, Nat.reduceAdd, Int.reduceEq, Int.reduceNe, Int.reduceLT, Int.reduceLE, Int.reduceAdd, Int.reduceSub, Int.reduceMul, Int.reduceNeg, Int.reduceToNat, Nat.reduceEqDiff, Nat.reduceLT, Nat.reduceLeDiff, Nat.reduceMul, List.replicate, reduceCtorEq, TB, NB, MB, hs0, ne10, z00, hap]
  rw [leave_fresh (Nat.le_refl _) look_self hnf]
  rfl
theorem walks_grown (p n c q : Nat) (sp : Option Nat) (d : Nat) (a : AW) (cs new : List Value) (hp : p < a.next) (hq : q < a.next) (hgp : a.get p = some (.cells cs true)) (hcl : cs.length = n) (hgq : a.get q = some (.cells new true)) (hnz : new.length = 1) (hno : new.all Value.oneCell' = true) (hnf : new.all flat = true) (hqp : q ≠ p) (hnl : n ≤ 900000) (hc : c = n) :
    WCall Try.prog G0 33 [.slice (some ⟨p, 0, some (1 + 1)⟩) n c, .int .i64 n, .slice (some ⟨q, 0, sp⟩) 1 d] a fun v b => (v, b) = growA 1 (n + 1) (insertAt 1 n cs new) (a.drop p) := by
  subst hc
  rw [call_env Try.func33 rfl Try.ntmps33 rfl rfl (by simp)]
  obtain ⟨v0, hs0⟩ : ∃ v0, sliceA Try.prog 25 (.slice (some ⟨p, 0, some 2⟩) c c) (some (.int .i64 (c : Int))) none none = some v0 :=
    ⟨_, slice_at (E := Try.prog) und25 size27 (p := ⟨p, 0, some 2⟩) (len := c) (cap := c) (.inr (.inr rfl)) (bnd_lo (k := .i64) (i := (c : Int)) (by omega) (by omega))⟩
  have hx : sliceCells 1 (.slice (some ⟨q, 0, sp⟩) 1 d) ⟨a.next, a.heap, a.next, []⟩ = some new := row_at hgq hnz
  have hy : sliceCells 1 (.slice (some ⟨p, 0, some 2⟩) c c) ⟨a.next, a.heap, a.next, []⟩ = some cs := row_at hgp hcl
  have hap := append_grown (E := Try.prog) (t0 := 25) (t1 := 25) (z := 1) (a := ⟨a.next, a.heap, a.next, []⟩) (p := ⟨p, 0, some 2⟩) (len := c) (cap := c) app25 (n := 1) rfl hx rfl hy (by omega) (by omega) hno
  rw [drop_soil] at hap
  simp -dsimp (maxSteps := 4000000) (disch := first | omega | assumption | (simp only [FB, Nat.reduceAdd]; done) | (simp only [LB]; omega)) only [EB, ↓reduceIte, WB, Nat.reduceSub, Nat.reduceAdd, Int.reduceEq, Int.reduceNe, Int.reduceLT, Int.reduceLE, Int.reduceAdd, Int.reduceSub, Int.reduceMul, Int.reduceNeg, Int.reduceToNat, Nat.reduceEqDiff, Nat.reduceLT, Nat.reduceLeDiff, Nat.reduceMul, List.replicate, reduceCtorEq, TB, NB, MB, hs0, ne10, hap]
  have hso : soilW a.next [] p = [p] := by unfold soilW; rw [if_pos hp]; rfl
  rw [hso, leave_soiled, insert_end cs new c hcl]
  rfl
theorem walks_full (p n i q : Nat) (sp : Option Nat) (d : Nat) (a : AW) (cs new : List Value) (hp : p < a.next) (hq : q < a.next) (hgp : a.get p = some (.cells cs true)) (hcl : cs.length = n) (hgq : a.get q = some (.cells new true)) (hnz : new.length = 1) (hno : new.all Value.oneCell' = true) (hnf : new.all flat = true) (hco : cs.all Value.oneCell' = true) (hcf : cs.all flat = true) (hqp : q ≠ p) (hnl : n ≤ 900000) (hi : i ≤ n) :
    WCall Try.prog G0 33 [.slice (some ⟨p, 0, some 0⟩) n n, .int .i64 i, .slice (some ⟨q, 0, sp⟩) 1 d] a fun v b => (v, b) = growA 1 (n + 1) (insertAt 1 i cs new) a := by
  rw [call_env Try.func33 rfl Try.ntmps33 rfl rfl (by simp)]
  have hs0 := sl_lo (p := p) (o := 0) (sp := some 0) (n := n) (c := n) (i := i) (j := i) rfl (.inr (.inl rfl)) hi
  by_cases hin : i = n
  · subst hin
    have hap := append_made (E := Try.prog) (t0 := 25) (t1 := 25) (z := 1) (a := ⟨a.next, a.heap, a.next, []⟩) (p := ⟨p, 0, some 0⟩) (len := i) (cap := i) app25 (n := 1) rfl (row_at (sp := sp) (d := d) (N := a.next) (b := a.next) (ds := []) hgq hnz) rfl (row_at hgp hcl) (by omega) (by omega) hno
    simp -dsimp (maxSteps := 4000000) (disch := first | omega | assumption | (simp only [FB, Nat.reduceAdd]; done) | (simp only [LB]; omega)) only [EB, ↓reduceIte, WB, Nat.reduceSub, Nat.reduceAdd, Int.reduceEq, Int.reduceNe, Int.reduceLT, Int.reduceLE, Int.reduceAdd, Int.reduceSub, Int.reduceMul, Int.reduceNeg, Int.reduceToNat, Nat.reduceEqDiff, Nat.reduceLT, Nat.reduceLeDiff, Nat.reduceMul, List.replicate, reduceCtorEq, TB, NB, MB, hs0, ne10, hap]
    rw [leave_fresh (Nat.le_refl _) look_self (by rw [List.all_append, hcf, hnf]; rfl), insert_end cs new i hcl]
    rfl
  · simp -dsimp (maxSteps := 4000000) (disch := first | omega | assumption | (simp only [FB, Nat.reduceAdd]; done) | (simp only [LB]; omega)) only [EB, ↓reduceIte, WB, Nat.reduceSub, Nat.reduceAdd, Int.reduceEq, Int.reduceNe, Int.reduceLT, Int.reduceLE, Int.reduceAdd, Int.reduceSub, Int.reduceMul, Int.reduceNeg, Int.reduceToNat, Nat.reduceEqDiff, Nat.reduceLT, Nat.reduceLeDiff, Nat.reduceMul, List.replicate, reduceCtorEq, TB, NB, MB, hs0, ne10, show ¬ (i : Int) = n by omega, wrap64, op_cap und25, cap25, show (n : Int) < ((n : Int) + ((1 : Nat) : Int)) by omega]
    have hs1 := sl_hi (p := p) (o := 0) (sp := some 0) (n := n) (c := n) (i := i) (j := (i : Int)) rfl (.inr (.inl rfl)) hi
    obtain ⟨Z, hZ, hz1⟩ := zeros25 (p := p) (N := a.next) (b := a.next) (i := i) (n := n) (k := n + 1 - i) (h := a.heap) (ds := []) (j := (n : Int) + ((1 : Nat) : Int) - (i : Int)) (by omega) hgp (by omega) (by omega) (by omega)
    rw [show i + (n + 1 - i) = n + 1 by omega] at hz1
    have hs2 := sl_four (p := a.next) (n := n + 1) (c := n + 1) (i := i) (j := (i : Int)) rfl (by omega)
    have htk : (cs.take (i)).length = i := by rw [List.length_take]; omega
    have hc1 := copy25 (N := a.next + 1) (b := a.next) (ds := []) (p := ⟨a.next, i, some 2⟩) (q := ⟨q, 0, sp⟩) (n := n + 1 - i) (c := n + 1 - i) (m := 1) (d := d) (k := 1) (h := (a.next, Blk.cells (cs.take (i) ++ Z) true) :: a.heap) look_self (by rw [look_miss (by simp only; omega)]; exact hgq) (by simp [Nat.min_def]; omega) (by simp only; omega) (by simp only [List.length_append, htk, hZ]; omega) hno
    have hT : (cs.take (i) ++ Z).take (i) = cs.take (i) := by rw [List.take_append_of_le_length (by omega), List.take_take, Nat.min_self]
    have hD : (cs.take (i) ++ Z).drop (i + 1) = Z.drop 1 := by rw [List.drop_append, List.drop_eq_nil_of_le (by omega), htk, List.nil_append]; congr 1; omega
    have hN : (new.drop 0).take (1) = new := by rw [List.drop_zero]; exact List.take_of_length_le (by omega)
    simp only [hT, hD, hN] at hc1
    simp -dsimp (maxSteps := 4000000) (disch := first | omega | assumption | (simp only [FB, Nat.reduceAdd]; done) | (simp only [LB]; omega)) only [EB, ↓reduceIte, WB, Nat.reduceSub, Nat.reduceAdd, Int.reduceEq, Int.reduceNe, Int.reduceLT, Int.reduceLE, Int.reduceAdd, Int.reduceSub, Int.reduceMul, Int.reduceNeg, Int.reduceToNat, Nat.reduceEqDiff, Nat.reduceLT, Nat.reduceLeDiff, Nat.reduceMul, List.replicate, reduceCtorEq, TB, NB, MB, hs1, wrap64, hz1, hs2, hc1]
    refine code_draw [(0, 1), (0, 2), (0, 3), (0, 5), (0, 6), (0, 7), (1, 2), (1, 5), (1, 6), (1, 7), (2, 5), (2, 6), (2, 7), (3, 5), (3, 6), (3, 7), (4, 5), (4, 6), (4, 7), (5, 6)] (by decide +kernel) (by decide +kernel) ?_
    have hs3 := sl_four (p := a.next) (n := n + 1) (c := n + 1) (i := i + 1) (j := (i : Int) + ((1 : Nat) : Int)) (by omega) (by omega)
    have hs4 := sl_zero (p := p) (n := n) (c := n) (i := i) (j := (i : Int)) rfl hi (by omega)
    have hZd : (Z.drop 1).length = (n - i) := by rw [List.length_drop, hZ]; omega
    have hc2 := copy25 (N := a.next + 2) (b := a.next + 2) (ds := []) (p := ⟨a.next, (i + 1), some 2⟩) (q := ⟨p, i, some 0⟩) (n := n + 1 - (i + 1)) (c := n + 1 - (i + 1)) (m := n - i) (d := n - i) (k := n - i) (h := (a.next, Blk.cells (cs.take (i) ++ (new ++ Z.drop 1)) true) :: a.heap) look_self (by rw [look_miss (by simp only; omega)]; exact hgp) (by simp [Nat.min_def]) (by simp only; omega) (by simp only [List.length_append, htk, hZd, hnz]; omega) hco
    have hT2 : (cs.take (i) ++ (new ++ Z.drop 1)).take ((i + 1)) = cs.take (i) ++ new := by
      rw [← List.append_assoc, List.take_append_of_le_length (by rw [List.length_append, htk, hnz]; omega), List.take_of_length_le (by rw [List.length_append, htk, hnz]; omega)]
    have hD2 : (cs.take (i) ++ (new ++ Z.drop 1)).drop ((i + 1) + (n - i)) = [] := List.drop_eq_nil_of_le (by simp only [List.length_append, htk, hZd, hnz]; omega)
    have hN2 : (cs.drop (i)).take ((n - i)) = cs.drop (i) := List.take_of_length_le (by rw [List.length_drop]; omega)
    simp only [hT2, hD2, hN2, List.append_nil, List.append_assoc] at hc2
    have hso : soilW (a.next + 2) [] a.next = [a.next] := by unfold soilW; rw [if_pos (by omega)]; rfl
    have hsa : soilAll [] a.next [a.next] = [] := by simp [soilAll]
    simp only [hso] at hc2
    simp -dsimp (maxSteps := 4000000) (disch := first | omega | assumption | (simp only [FB, Nat.reduceAdd]; done) | (simp only [LB]; omega)) only [EB, ↓reduceIte, WB, Nat.reduceSub, Nat.reduceAdd, Int.reduceEq, Int.reduceNe, Int.reduceLT, Int.reduceLE, Int.reduceAdd, Int.reduceSub, Int.reduceMul, Int.reduceNeg, Int.reduceToNat, Nat.reduceEqDiff, Nat.reduceLT, Nat.reduceLeDiff, Nat.reduceMul, List.replicate, reduceCtorEq, RB, Nat.reduceEqDiff, TB, NB, MB, hs3, hs4, hc2, wrap64, hsa]
    have hsn : soilW a.next [] a.next = [] := by unfold soilW; rw [if_neg (by omega)]
    have hfd : (cs.take (i) ++ (new ++ cs.drop (i))).all flat = true := by
      rw [List.all_eq_true] at hcf hnf ⊢
      intro u hu
      rcases List.mem_append.1 hu with hu | hu
      · exact hcf u (List.mem_of_mem_take hu)
      · rcases List.mem_append.1 hu with hu | hu
        · exact hnf u hu
        · exact hcf u (List.mem_of_mem_drop hu)
    rw [hsn, leave_fresh (Nat.le_refl _) look_self hfd]
    simp only [growA, insertAt, Nat.mul_one]
    rfl
theorem putAt_twice {i : Nat} {x y : Blk} : ∀ {h : List (Nat × Blk)}, putAt i x (putAt i y h) = putAt i x h
  | [] => rfl
  | (j, b) :: r => by
    by_cases hij : i = j
    · subst hij; simp [putAt]
    · simp only [putAt, if_neg hij, putAt_twice (h := r)]
theorem walks_room (p n c i q : Nat) (sp : Option Nat) (d : Nat) (a : AW) (cs new : List Value) (hp : p < a.next) (hq : q < a.next) (hgp : a.get p = some (.holey cs 1)) (hcl : cs.length = n) (hgq : a.get q = some (.cells new true)) (hnz : new.length = 1) (hno : new.all Value.oneCell' = true) (hnf : new.all flat = true) (hco : cs.all Value.oneCell' = true) (hcf : cs.all flat = true) (hqp : q ≠ p) (hnl : n ≤ 900000) (hi : i < n) (hc : n < c) :
    WCall Try.prog G0 33 [.slice (some ⟨p, 0, some 0⟩) n c, .int .i64 i, .slice (some ⟨q, 0, sp⟩) 1 d] a fun v b => v = .slice (some ⟨p, 0, some 0⟩) (n + 1) c ∧ b = { a.write p (.holey (insertAt 1 i cs new) 0) with next := a.next + 1 } := by
  rw [call_env Try.func33 rfl Try.ntmps33 rfl rfl (by simp)]
  have hs0 := sl_zero (p := p) (n := n) (c := c) (i := i) (j := i) rfl (by omega) (by omega)
  have hs1 := sl_hi (p := p) (o := 0) (sp := some 0) (n := n) (c := c) (i := n + 1) (j := (n : Int) + ((1 : Nat) : Int)) (by omega) (.inr (.inl rfl)) (by omega)
  have hs2 := sl_zero (p := p) (n := n + 1) (c := c) (i := i + 1) (j := (i : Int) + ((1 : Nat) : Int)) (by omega) (by omega) (by omega)
  have hov := fun K => over48 (p := ⟨q, 0, sp⟩) (q := ⟨p, (i + 1), some 0⟩) (n := 1) (c := d) (m := n + 1 - (i + 1)) (d := c - (i + 1)) ⟨a.next, a.heap, a.next, []⟩ (by simpa using hqp) (by omega) (by omega) (cs := new) (ds := cs) (by intro h; rw [h] at hnz; cases hnz) (by intro h; rw [h] at hcl; simp at hcl; omega) hgq hgp K
  simp -dsimp (maxSteps := 4000000) (disch := first | omega | assumption | (simp only [FB, Nat.reduceAdd]; done) | (simp only [LB]; omega)) only [EB, ↓reduceIte, WB, Nat.reduceSub, Nat.reduceAdd, Int.reduceEq, Int.reduceNe, Int.reduceLT, Int.reduceLE, Int.reduceAdd, Int.reduceSub, Int.reduceMul, Int.reduceNeg, Int.reduceToNat, Nat.reduceEqDiff, Nat.reduceLT, Nat.reduceLeDiff, Nat.reduceMul, List.replicate, reduceCtorEq, TB, NB, MB, hs0, ne10, show ¬ (i : Int) = n by omega, wrap64, op_cap und25, cap25, show ¬ (c : Int) < ((n : Int) + ((1 : Nat) : Int)) by omega, hs1, hs2, hov]
  refine code_draw [(0, 1), (0, 2), (0, 3), (0, 5), (0, 6), (0, 7), (1, 2), (1, 5), (1, 6), (1, 7), (2, 5), (2, 6), (2, 7), (3, 5), (3, 6), (3, 7), (4, 5), (4, 6), (4, 7), (5, 6)] (by decide +kernel) (by decide +kernel) ?_
  have hs4 := sl_zero (p := p) (n := n + 1) (c := c) (i := i) (j := (i : Int)) rfl (by omega) (by omega)
  have hrest : (cs.drop (i)).length = (n - i) := by rw [List.length_drop]; omega
  have hall : (cs.drop (i)).all Value.oneCell' = true := by
    rw [List.all_eq_true] at hco ⊢
    exact fun u hu => hco u (List.mem_of_mem_drop hu)
  have htk : (cs.take ((i + 1))).length = (i + 1) := by rw [List.length_take]; omega
  have hld : AW.loadN ⟨a.next + 1, a.heap, a.next + 1, []⟩ ⟨p, i, some 0⟩ ((n - i)) = some (cs.drop (i)) := by
    have hg : (⟨a.next + 1, a.heap, a.next + 1, []⟩ : AW).get p = some (.holey cs 1) := hgp
    simp only [AW.loadN, hg]
    rw [if_pos (by omega), List.take_of_length_le (by omega)]
  have hst : AW.storeN ⟨a.next + 1, a.heap, a.next + 1, []⟩ ⟨p, (i + 1), some 0⟩ (cs.drop (i)) = some (AW.write ⟨a.next + 1, a.heap, a.next + 1, []⟩ p (.holey (cs.take ((i + 1)) ++ cs.drop (i)) 0)) := by
    have hg : (⟨a.next + 1, a.heap, a.next + 1, []⟩ : AW).get p = some (.holey cs 1) := hgp
    simp only [AW.storeN, hg]
    rw [if_pos ⟨by omega, by omega, hall⟩, List.drop_eq_nil_of_le (show cs.length ≤ (i + 1) + (cs.drop (i)).length by rw [hrest]; omega), List.append_nil, show cs.length + 1 - max cs.length ((i + 1) + (cs.drop (i)).length) = 0 by rw [hrest]; omega]
  have hmin : Nat.min (n + 1 - i) (n + 1 - (i + 1)) = n - i := by simp only [Nat.min_def]; split <;> omega
  have hc1 := copy_raw (E := Try.prog) (t0 := 25) (t1 := 25) elem25 (p := ⟨p, (i + 1), some 0⟩) (q := ⟨p, i, some 0⟩) (n := n + 1 - (i + 1)) (c := c - (i + 1)) (m := n + 1 - i) (d := c - i) (by rw [hmin, Nat.mul_one]; exact hld) hst
  rw [write_soil, hmin, show soilW (a.next + 1) [] p = [p] from by unfold soilW; rw [if_pos (by omega)]; rfl] at hc1
  have hsa : soilAll [] a.next [p] = [p] := by simp [soilAll]; omega
  have hlo : look p (putAt p (Blk.holey (cs.take ((i + 1)) ++ cs.drop (i)) 0) a.heap) = some (Blk.holey (cs.take ((i + 1)) ++ cs.drop (i)) 0) := by
    rw [look_put (x := Blk.holey (cs.take ((i + 1)) ++ cs.drop (i)) 0) (show look p a.heap = _ from hgp) p, if_pos rfl]
  have hlq : look q (putAt p (Blk.holey (cs.take ((i + 1)) ++ cs.drop (i)) 0) a.heap) = some (Blk.cells new true) := by
    rw [look_put (x := Blk.holey (cs.take ((i + 1)) ++ cs.drop (i)) 0) (show look p a.heap = _ from hgp) q, if_neg hqp]; exact hgq
  have hld2 : AW.loadN ⟨a.next + 1, putAt p (Blk.holey (cs.take ((i + 1)) ++ cs.drop (i)) 0) a.heap, a.next, [p]⟩ ⟨q, 0, sp⟩ (1) = some new := by
    rw [loadN_at (a := ⟨a.next + 1, putAt p (Blk.holey (cs.take ((i + 1)) ++ cs.drop (i)) 0) a.heap, a.next, [p]⟩) (p := ⟨q, 0, sp⟩) hlq (by simp only; omega), List.drop_zero, List.take_of_length_le (by omega)]
  have hX1 : (cs.take ((i + 1)) ++ cs.drop (i)).take (i) = cs.take (i) := by rw [List.take_append_of_le_length (by omega), List.take_take, Nat.min_eq_left (by omega)]
  have hX2 : (cs.take ((i + 1)) ++ cs.drop (i)).drop (i + 1) = cs.drop (i) := by rw [List.drop_append, List.drop_eq_nil_of_le (by omega), List.nil_append, htk, show i + 1 - (i + 1) = 0 by omega, List.drop_zero]
  have hst2 : AW.storeN ⟨a.next + 1, putAt p (Blk.holey (cs.take ((i + 1)) ++ cs.drop (i)) 0) a.heap, a.next, [p]⟩ ⟨p, i, some 0⟩ new = some (AW.write ⟨a.next + 1, putAt p (Blk.holey (cs.take ((i + 1)) ++ cs.drop (i)) 0) a.heap, a.next, [p]⟩ p (.holey (insertAt 1 i cs new) 0)) := by
    have hg : (⟨a.next + 1, putAt p (Blk.holey (cs.take ((i + 1)) ++ cs.drop (i)) 0) a.heap, a.next, [p]⟩ : AW).get p = _ := hlo
    simp only [AW.storeN, hg]
    have hl : (cs.take ((i + 1)) ++ cs.drop (i)).length = n + 1 := by rw [List.length_append, htk, hrest]; omega
    rw [if_pos ⟨by omega, by omega, hno⟩, hnz, hX1, hX2, hl, show n + 1 + 0 - max (n + 1) (i + 1) = 0 by omega]
    simp only [insertAt, Nat.mul_one]
  have hmin2 : Nat.min 1 (n + 1 - i) = 1 := by simp only [Nat.min_def]; split <;> omega
  have hc2 := copy_raw (E := Try.prog) (t0 := 25) (t1 := 25) elem25 (p := ⟨p, i, some 0⟩) (q := ⟨q, 0, sp⟩) (n := n + 1 - i) (c := c - i) (m := 1) (d := d) (by rw [hmin2]; exact hld2) hst2
  rw [write_soil, hmin2, show soilW a.next [p] p = [p] from by unfold soilW; simp, putAt_twice] at hc2
  simp -dsimp (maxSteps := 4000000) (disch := first | omega | assumption | (simp only [FB, Nat.reduceAdd]; done) | (simp only [LB]; omega)) only [EB, ↓reduceIte, WB, Nat.reduceSub, Nat.reduceAdd, Int.reduceEq, Int.reduceNe, Int.reduceLT, Int.reduceLE, Int.reduceAdd, Int.reduceSub, Int.reduceMul, Int.reduceNeg, Int.reduceToNat, Nat.reduceEqDiff, Nat.reduceLT, Nat.reduceLeDiff, Nat.reduceMul, List.replicate, reduceCtorEq, RB, Nat.reduceEqDiff, TB, NB, MB, hs2, hs4, wrap64, hc1, hsa, hc2]
  rw [leave_soiled]
  exact ⟨rfl, rfl⟩
theorem walks33 : InsertWalks Try.prog G0 33 1 := ⟨walks_nil, fun p n c q sp d a cs new h1 h2 h3 h4 => walks_grown p n c q sp d a cs new h1 h2 h3 (by omega), fun p n i q sp d a cs new h1 h2 h3 h4 => walks_full p n i q sp d a cs new h1 h2 h3 (by omega), fun p n c i q sp d a cs new h1 h2 h3 h4 => walks_room p n c i q sp d a cs new h1 h2 h3 (by omega)⟩
def GI : Gives := insG 33 48 1 (memo [kLives])
theorem plain_names : plainNames Try.prog = true := by decide +kernel
theorem over_ok : G0.Sound Try.prog := by
  refine over_sound (fn := Try.f48) (tS := 25) (tR := 4) (e := 27) (size := 1) rfl (by decide +kernel) rfl ?_ ?_ und25 size27 (memo_sound plain_names known_all)
  · rfl
  · rfl
theorem ins_ok : GI.Sound Try.prog := ins_sound rfl plain_names over_ok walks33
end Go.Proofs.YtlbmjpmonaekgaaAM
