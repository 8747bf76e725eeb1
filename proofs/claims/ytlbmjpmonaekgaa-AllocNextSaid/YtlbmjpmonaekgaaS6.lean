/- Chapter 14: the pivot of a row. -/
import Derived.Test.YtlbmjpmonaekgaaS5
namespace Go.Proofs.YtlbmjpmonaekgaaAM
open Go Go.RowKit Go.Sort
set_option linter.unusedVariables false
set_option linter.unusedSimpArgs false
set_option maxRecDepth 10000
set_option maxHeartbeats 4000000

/-- Behind a call that counts on. -/
def AftC (a a' : AW) (p : Nat) (s s' : Int) : Prop :=
  (a' = a ∧ s' = s) ∨ (a'.base = a.base ∧ a'.dirty = soilW a.base a.dirty p ∧ a.next ≤ a'.next ∧ look p a'.heap = some (.cells [.int .i64 s'] true) ∧ ∀ j, j < a.next → j ≠ p → look j a'.heap = look j a.heap)
/-- A frame that counts on in a block from below. -/
structure Cnt (n0 : Nat) (h0 : List (Nat × Blk)) (p : Nat) (s0 s : Int) (n : Nat) (h : List (Nat × Blk)) (ds : List Nat) : Prop where
  le : n0 ≤ n
  lt : p < n0
  at_ : look p h = some (.cells [.int .i64 s] true)
  keep : ∀ j, j < n0 → j ≠ p → look j h = look j h0
  ds : (ds = [] ∧ s = s0) ∨ ds = [p]
section
variable {n0 : Nat} {h0 : List (Nat × Blk)} {p : Nat} {s0 s s' : Int} {n n' : Nat} {h h' : List (Nat × Blk)} {ds : List Nat}
theorem Cnt.start (hp : look p h0 = some (.cells [.int .i64 s] true)) (hlt : p < n0) : Cnt n0 h0 p s s n0 h0 [] :=
  ⟨Nat.le_refl _, hlt, hp, fun _ _ _ => rfl, .inl ⟨rfl, rfl⟩⟩
theorem Cnt.next (r : Cnt n0 h0 p s0 s n h ds) (hn : n ≤ n') (hh : ∀ j, j < n0 → look j h' = look j h) : Cnt n0 h0 p s0 s n' h' ds :=
  ⟨Nat.le_trans r.le hn, r.lt, by rw [hh p r.lt]; exact r.at_, fun j h1 h2 => by rw [hh j h1]; exact r.keep j h1 h2, r.ds⟩
theorem Cnt.up (r : Cnt n0 h0 p s0 s n h ds) : Cnt n0 h0 p s0 s (n + 1) h ds := r.next (Nat.le_succ _) fun _ _ => rfl
theorem Cnt.put (r : Cnt n0 h0 p s0 s n h ds) : Cnt n0 h0 p s0 s' n (putAt p (.cells [.int .i64 s'] true) h) [p] :=
  ⟨r.le, r.lt, look_put1 r.at_, fun j h1 h2 => by rw [look_wput_ne h2]; exact r.keep j h1 h2, .inr rfl⟩
theorem Cnt.soil (r : Cnt n0 h0 p s0 s n h ds) : soilW n0 ds p = [p] := by
  rcases r.ds with ⟨rfl, -⟩ | rfl
  · exact soil_one r.lt
  · exact soil_same r.lt
theorem Cnt.call {a' : AW} (r : Cnt n0 h0 p s0 s n h ds) (ha : AftC ⟨n, h, n0, ds⟩ a' p s s') : ∃ n' h' ds', a' = ⟨n', h', n0, ds'⟩ ∧ n ≤ n' ∧ Cnt n0 h0 p s0 s' n' h' ds' := by
  rcases ha with ⟨rfl, rfl⟩ | ⟨h1, h2, h3, h4, h5⟩
  · exact ⟨_, _, _, rfl, Nat.le_refl _, r⟩
  · obtain ⟨n', h', b', ds'⟩ := a'
    simp only at h1 h2 h3 h4 h5
    subst h1 h2
    exact ⟨n', h', _, rfl, h3, Nat.le_trans r.le h3, r.lt, h4, fun j j1 j2 => by rw [h5 j (Nat.lt_of_lt_of_le j1 r.le) j2]; exact r.keep j j1 j2, .inr r.soil⟩
theorem Cnt.leave {bs : Nat} {ds0 : List Nat} (r : Cnt n0 h0 p s0 s n h ds) {vs : List Value} (hv : vs.all flat = true) :
    ∃ a', leaveA ⟨n0, h0, bs, ds0⟩ vs ⟨n, h, n0, ds⟩ = (vs, a') ∧ AftC ⟨n0, h0, bs, ds0⟩ a' p s0 s := by
  rcases r.ds with ⟨rfl, rfl⟩ | rfl
  · exact ⟨_, leave_flat hv, .inl ⟨rfl, rfl⟩⟩
  · exact ⟨_, leave_soil, .inr ⟨rfl, rfl, r.le, r.at_, r.keep⟩⟩
end
theorem ord77 (q p : Nat) (sp : Option Nat) (c : Nat) (d : Array Int) (x y N : Nat) (s : Int) (hN : d.size = N) (hx : x < N) (hy : y < N) (hsz : N ≤ 1000000) (hs : 0 ≤ s ∧ s ≤ 1000) (a : AW) (hq : look q a.heap = some (.cells (cU d) true)) (hqn : q < a.next) (hp : look p a.heap = some (.cells [.int .i64 s] true)) (hpn : p < a.next) (K : Value → AW → Prop)
    (hK : ∀ a' (x' y' : Nat) (s' : Int), AftC a a' p s s' → (x' = x ∧ y' = y ∨ x' = y ∧ y' = x) → 0 ≤ s' → s' ≤ s + 1 → K (.tuple #[.int .i64 x', .int .i64 y']) a') : WCall Try.prog GC 77 [.slice (some ⟨q, 0, sp⟩) N c, .int .i64 x, .int .i64 y, .pointer (some ⟨p, 0, none⟩)] a K := by
  rw [call_env Try.func77 rfl Try.ntmps77 rfl rfl (by simp)]
  have rx := cU_at (d := d) (i := x) (by omega)
  have ry := cU_at (d := d) (i := y) (by omega)
  have r : Cnt a.next a.heap p s s (a.next + 1) a.heap [] := (Cnt.start hp hpn).up
  have hqn1 : q < a.next + 1 := by omega
  simp -dsimp (maxSteps := 4000000) (disch := first | omega | assumption | (simp only [FB, Nat.reduceAdd]; done) | (simp only [LB]; omega)) only [EB, ↓reduceIte, WB, Nat.reduceSub, Nat.reduceAdd, Int.reduceEq, Int.reduceNe, Int.reduceLT, Int.reduceLE, Int.reduceAdd, Int.reduceSub, Int.reduceMul, Int.reduceNeg, Int.reduceToNat, Nat.reduceEqDiff, Nat.reduceLT, Nat.reduceLeDiff, Nat.reduceMul, List.replicate, reduceCtorEq, TB, NB, MB, ]
  refine code_draw [(0, 1), (0, 4), (0, 5), (0, 6), (0, 7), (1, 4), (1, 5), (1, 6), (1, 7), (2, 4), (2, 5), (2, 6), (2, 7), (3, 4), (3, 5), (3, 6), (3, 7), (4, 5)] (by decide +kernel) (by decide +kernel) ?_
  cases hl : ltInt d[y]! d[x]! with
  | false =>
    simp -dsimp (maxSteps := 4000000) (disch := first | omega | assumption | (simp only [FB, Nat.reduceAdd]; done) | (simp only [LB]; omega)) only [EB, ↓reduceIte, WB, Nat.reduceSub, Nat.reduceAdd, Int.reduceEq, Int.reduceNe, Int.reduceLT, Int.reduceLE, Int.reduceAdd, Int.reduceSub, Int.reduceMul, Int.reduceNeg, Int.reduceToNat, Nat.reduceEqDiff, Nat.reduceLT, Nat.reduceLeDiff, Nat.reduceMul, List.replicate, reduceCtorEq, RB, Nat.reduceEqDiff, TB, NB, MB, show (x : Int) < N by omega, show (y : Int) < N by omega, indexAddr_slice und25 size27, load_one agg27, hq, rx, ry, less46, hl]
    exact hK _ x y s (.inl ⟨rfl, rfl⟩) (.inl ⟨rfl, rfl⟩) hs.1 (by omega)
  | true =>
    simp -dsimp (maxSteps := 4000000) (disch := first | omega | assumption | (simp only [FB, Nat.reduceAdd]; done) | (simp only [LB]; omega)) only [EB, ↓reduceIte, WB, Nat.reduceSub, Nat.reduceAdd, Int.reduceEq, Int.reduceNe, Int.reduceLT, Int.reduceLE, Int.reduceAdd, Int.reduceSub, Int.reduceMul, Int.reduceNeg, Int.reduceToNat, Nat.reduceEqDiff, Nat.reduceLT, Nat.reduceLeDiff, Nat.reduceMul, List.replicate, reduceCtorEq, RB, Nat.reduceEqDiff, TB, NB, MB, show (x : Int) < N by omega, show (y : Int) < N by omega, indexAddr_slice und25 size27, load_one agg27, hq, hp, rx, ry, less46, hl, nilCheck_ptr, wrap64, write_soil, load_one agg3]
    have r2 : Cnt a.next a.heap p s (s + 1) (a.next + 1) (putAt p (.cells [.int .i64 (s + 1)] true) a.heap) [p] := r.put
    rw [soil_one hpn]
    obtain ⟨a', ea, ha⟩ := r2.leave (bs := a.base) (ds0 := a.dirty) (vs := [.int .i64 y, .int .i64 x]) rfl
    rw [ea]
    exact hK a' y x _ ha (.inr ⟨rfl, rfl⟩) (by omega) (Int.le_refl _)
theorem med76 (q p : Nat) (sp : Option Nat) (c : Nat) (d : Array Int) (x y z N : Nat) (s : Int) (hN : d.size = N) (hx : x < N) (hy : y < N) (hz : z < N) (hsz : N ≤ 1000000) (hs : 0 ≤ s ∧ s ≤ 900) (a : AW) (hq : look q a.heap = some (.cells (cU d) true)) (hqn : q < a.next) (hp : look p a.heap = some (.cells [.int .i64 s] true)) (hpn : p < a.next) (hpq : q ≠ p) (K : Value → AW → Prop)
    (hK : ∀ a' (m : Nat) (s' : Int), AftC a a' p s s' → (m = x ∨ m = y ∨ m = z) → 0 ≤ s' → s' ≤ s + 3 → K (.int .i64 m) a') : WCall Try.prog GC 76 [.slice (some ⟨q, 0, sp⟩) N c, .int .i64 x, .int .i64 y, .int .i64 z, .pointer (some ⟨p, 0, none⟩)] a K := by
  rw [call_env Try.func76 rfl Try.ntmps76 rfl rfl (by simp)]
  have r0 : Cnt a.next a.heap p s s a.next a.heap [] := Cnt.start hp hpn
  simp -dsimp (maxSteps := 4000000) (disch := first | omega | assumption | (simp only [FB, Nat.reduceAdd]; done) | (simp only [LB]; omega)) only [EB, ↓reduceIte, WB, Nat.reduceSub, Nat.reduceAdd, Int.reduceEq, Int.reduceNe, Int.reduceLT, Int.reduceLE, Int.reduceAdd, Int.reduceSub, Int.reduceMul, Int.reduceNeg, Int.reduceToNat, Nat.reduceEqDiff, Nat.reduceLT, Nat.reduceLeDiff, Nat.reduceMul, List.replicate, reduceCtorEq, TB, NB, MB, ]
  refine ord77 q p sp c d x y N s hN hx hy hsz (by omega) ⟨a.next, a.heap, a.next, []⟩ hq hqn hp hpn _ fun a1 x1 y1 s1 h1 m1 l1 u1 => ?_
  obtain ⟨n1, g1, d1, rfl, hn1, r1⟩ := r0.call h1
  have hq1 : look q g1 = some (.cells (cU d) true) := by rw [r1.keep q hqn hpq]; exact hq
  simp -dsimp (maxSteps := 4000000) (disch := first | omega | assumption | (simp only [FB, Nat.reduceAdd]; done) | (simp only [LB]; omega)) only [EB, ↓reduceIte, WB, Nat.reduceSub, Nat.reduceAdd, Int.reduceEq, Int.reduceNe, Int.reduceLT, Int.reduceLE, Int.reduceAdd, Int.reduceSub, Int.reduceMul, Int.reduceNeg, Int.reduceToNat, Nat.reduceEqDiff, Nat.reduceLT, Nat.reduceLeDiff, Nat.reduceMul, List.replicate, reduceCtorEq, TB, NB, MB, ]
  refine ord77 q p sp c d y1 z N s1 hN (by omega) hz hsz (by omega) _ hq1 (Nat.lt_of_lt_of_le hqn r1.le) r1.at_ (Nat.lt_of_lt_of_le hpn r1.le) _ fun a2 x2 y2 s2 h2 m2 l2 u2 => ?_
  obtain ⟨n2, g2, d2, rfl, hn2, r2⟩ := r1.call h2
  have hq2 : look q g2 = some (.cells (cU d) true) := by rw [r2.keep q hqn hpq]; exact hq
  simp -dsimp (maxSteps := 4000000) (disch := first | omega | assumption | (simp only [FB, Nat.reduceAdd]; done) | (simp only [LB]; omega)) only [EB, ↓reduceIte, WB, Nat.reduceSub, Nat.reduceAdd, Int.reduceEq, Int.reduceNe, Int.reduceLT, Int.reduceLE, Int.reduceAdd, Int.reduceSub, Int.reduceMul, Int.reduceNeg, Int.reduceToNat, Nat.reduceEqDiff, Nat.reduceLT, Nat.reduceLeDiff, Nat.reduceMul, List.replicate, reduceCtorEq, TB, NB, MB, ]
  refine ord77 q p sp c d x1 x2 N s2 hN (by omega) (by omega) hsz (by omega) _ hq2 (Nat.lt_of_lt_of_le hqn r2.le) r2.at_ (Nat.lt_of_lt_of_le hpn r2.le) _ fun a3 x3 y3 s3 h3 m3 l3 u3 => ?_
  obtain ⟨n3, g3, d3, rfl, hn3, r3⟩ := r2.call h3
  simp -dsimp (maxSteps := 4000000) (disch := first | omega | assumption | (simp only [FB, Nat.reduceAdd]; done) | (simp only [LB]; omega)) only [EB, ↓reduceIte, WB, Nat.reduceSub, Nat.reduceAdd, Int.reduceEq, Int.reduceNe, Int.reduceLT, Int.reduceLE, Int.reduceAdd, Int.reduceSub, Int.reduceMul, Int.reduceNeg, Int.reduceToNat, Nat.reduceEqDiff, Nat.reduceLT, Nat.reduceLeDiff, Nat.reduceMul, List.replicate, reduceCtorEq, TB, NB, MB, ]
  obtain ⟨a', ea, ha⟩ := r3.leave (bs := a.base) (ds0 := a.dirty) (vs := [.int .i64 y3]) rfl
  rw [ea]
  exact hK a' y3 s3 ha (by omega) l3 (by omega)
theorem adj75 (q p : Nat) (sp : Option Nat) (c : Nat) (d : Array Int) (x N : Nat) (s : Int) (hN : d.size = N) (hx1 : 1 ≤ x) (hx : x + 1 < N) (hsz : N ≤ 1000000) (hs : 0 ≤ s ∧ s ≤ 900) (a : AW) (hq : look q a.heap = some (.cells (cU d) true)) (hqn : q < a.next) (hp : look p a.heap = some (.cells [.int .i64 s] true)) (hpn : p < a.next) (hpq : q ≠ p) (K : Value → AW → Prop)
    (hK : ∀ a' (m : Nat) (s' : Int), AftC a a' p s s' → (x - 1 ≤ m ∧ m ≤ x + 1) → 0 ≤ s' → s' ≤ s + 3 → K (.int .i64 m) a') : WCall Try.prog GC 75 [.slice (some ⟨q, 0, sp⟩) N c, .int .i64 x, .pointer (some ⟨p, 0, none⟩)] a K := by
  rw [call_env Try.func75 rfl Try.ntmps75 rfl rfl (by simp)]
  have r0 : Cnt a.next a.heap p s s a.next a.heap [] := Cnt.start hp hpn
  have c1 : (x : Int) - 1 = ((x - 1 : Nat) : Int) := by omega
  have c2 : (x : Int) + 1 = ((x + 1 : Nat) : Int) := by omega
  simp -dsimp (maxSteps := 4000000) (disch := first | omega | assumption | (simp only [FB, Nat.reduceAdd]; done) | (simp only [LB]; omega)) only [EB, ↓reduceIte, WB, Nat.reduceSub, Nat.reduceAdd, Int.reduceEq, Int.reduceNe, Int.reduceLT, Int.reduceLE, Int.reduceAdd, Int.reduceSub, Int.reduceMul, Int.reduceNeg, Int.reduceToNat, Nat.reduceEqDiff, Nat.reduceLT, Nat.reduceLeDiff, Nat.reduceMul, List.replicate, reduceCtorEq, TB, NB, MB, wrap64, c1, c2]
  refine med76 q p sp c d (x - 1) x (x + 1) N s hN (by omega) (by omega) hx hsz hs ⟨a.next, a.heap, a.next, []⟩ hq hqn hp hpn hpq _ fun a1 m s1 h1 m1 l1 u1 => ?_
  obtain ⟨n1, g1, d1, rfl, hn1, r1⟩ := r0.call h1
  simp -dsimp (maxSteps := 4000000) (disch := first | omega | assumption | (simp only [FB, Nat.reduceAdd]; done) | (simp only [LB]; omega)) only [EB, ↓reduceIte, WB, Nat.reduceSub, Nat.reduceAdd, Int.reduceEq, Int.reduceNe, Int.reduceLT, Int.reduceLE, Int.reduceAdd, Int.reduceSub, Int.reduceMul, Int.reduceNeg, Int.reduceToNat, Nat.reduceEqDiff, Nat.reduceLT, Nat.reduceLeDiff, Nat.reduceMul, List.replicate, reduceCtorEq, TB, NB, MB, ]
  obtain ⟨a', ea, ha⟩ := r1.leave (bs := a.base) (ds0 := a.dirty) (vs := [.int .i64 m]) rfl
  rw [ea]
  exact hK a' m s1 ha (by omega) l1 u1
end Go.Proofs.YtlbmjpmonaekgaaAM
