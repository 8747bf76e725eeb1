/- Chapter 6: numbers as bytes, and a page's body. -/
import Derived.Test.YtpcaoohacgkeiaaP0
namespace Go.Proofs.YtpcaoohacgkeiaaAM
open Go Go.RowKit
set_option linter.unusedVariables false
set_option linter.unusedSimpArgs false
set_option maxRecDepth 10000
set_option maxHeartbeats 4000000

theorem RV.one {α : Type} {enc : α → List Value} {z : Nat} (he : ∀ x, (enc x).length = z) {h : List (Nat × Blk)} {n m : Nat} {x : α} {rw : Bool} (hb : look m h = some (.cells (enc x) rw)) (hm : m < n) : RV enc z h n (.slice (some ⟨m, 0, some 0⟩) 1 1) [x] :=
  .inr ⟨m, 0, some 0, 1, rw, enc x, rfl, hb, hm, by rw [he]; simp, by simp [← he x], .inr (.inl rfl), Nat.le_refl _⟩
theorem append_mine {E : Program} {α : Type} {enc : α → List Value} {t0 t1 : TypeId} {z : Nat} (hk : appOk E t0 t1 z = true) (he : ∀ x, (enc x).length = z) (ho1 : ∀ x, (enc x).all Value.oneCell' = true)
    {h : List (Nat × Blk)} {n q bs m : Nat} {d : List Nat} {v x : Value} {xs ys : List α} (ho : OwnS enc z h n q v xs) (hb : bs ≤ q) (hn : bs ≤ n) (hy : RV enc z h m x ys) (hl : xs.length + ys.length ≤ 1000000) :
    ∃ v' q' n' h', builtinA E .append #[t0, t1] [v, x] ⟨n, h, bs, d⟩ = some (v', ⟨n', h', bs, d⟩) ∧ OwnS enc z h' n' q' v' (xs ++ ys) ∧ n ≤ n' ∧ n' ≤ n + 1 ∧ bs ≤ q' ∧ (q' = q ∨ n ≤ q') ∧ (∀ j, j < n → j ≠ q → look j h' = look j h) := by
  obtain ⟨v', q', n', h', d', e, h1, h2, h3, h4, h5, h6⟩ := append_own (bs := bs) (d := d) hk he ho1 ho hy hl
  have : d' = d := by
    rcases h6 with h6 | h6
    · exact h6
    · rw [h6]; exact soilW_past hb
  subst this
  exact ⟨v', q', n', h', e, h1, h2, h3, by omega, h4, h5⟩
theorem append_mineS {E : Program} {t0 t1 : TypeId} (hk : appOk E t0 t1 1 = true)
    {h : List (Nat × Blk)} {n q bs : Nat} {d : List Nat} {v : Value} {xs ys : List UInt8} (ho : OwnS encU 1 h n q v xs) (hb : bs ≤ q) (hn : bs ≤ n) (hl : xs.length + ys.length ≤ 1000000) :
    ∃ v' q' n' h', builtinA E .append #[t0, t1] [v, .string (mkStr ys)] ⟨n, h, bs, d⟩ = some (v', ⟨n', h', bs, d⟩) ∧ OwnS encU 1 h' n' q' v' (xs ++ ys) ∧ n ≤ n' ∧ n' ≤ n + 1 ∧ bs ≤ q' ∧ (q' = q ∨ n ≤ q') ∧ (∀ j, j < n → j ≠ q → look j h' = look j h) := by
  obtain ⟨v', q', n', h', d', e, h1, h2, h3, h4, h5, h6⟩ := append_str (bs := bs) (d := d) hk ho hl
  have : d' = d := by
    rcases h6 with h6 | h6
    · exact h6
    · rw [h6]; exact soilW_past hb
  subst this
  exact ⟨v', q', n', h', e, h1, h2, h3, by omega, h4, h5⟩
/-- The byte at a place of a number. -/
def byteAt (n i : Nat) : UInt8 := UInt8.ofNat (n / 256 ^ i)
def le (n k : Nat) : List UInt8 := (List.range k).map (byteAt n)
theorem le_len (n k : Nat) : (le n k).length = k := by simp [le]
theorem le_succ (n k : Nat) : le n (k + 1) = le n k ++ [byteAt n k] := by simp [le, List.range_succ]
theorem byte_shr (n i : Nat) (hi : i < 8) : IntKind.wrap .u8 (Int.fdiv (n : Int) (2 ^ (min (8 * (i : Int)).toNat IntKind.u64.bits))) = (byteAt n i).toNat := by
  have e1 : min (8 * (i : Int)).toNat IntKind.u64.bits = 8 * i := by show min (8 * (i : Int)).toNat 64 = 8 * i; omega
  have e2 : (2 : Int) ^ (8 * i) = ((256 ^ i : Nat) : Int) := by rw [show (256 : Nat) = 2 ^ 8 from rfl, ← Nat.pow_mul]; simp
  rw [e1, e2]
  show Int.fdiv (n : Int) ((256 ^ i : Nat) : Int) % 256 = _
  rw [Int.fdiv_eq_ediv_of_nonneg _ (Int.natCast_nonneg _)]
  unfold byteAt
  rw [UInt8.toNat_ofNat']
  have : ((n : Int) / ((256 ^ i : Nat) : Int)) = ((n / 256 ^ i : Nat) : Int) := by simp
  rw [this]
  omega
theorem put31 (v : Value) (l : List UInt8) (N k : Nat) (hk1 : 1 ≤ k) (hk8 : k ≤ 8) (hl : l.length ≤ 100000) (a : AW) (m : Nat) (hm : m ≤ a.next) (hv : RV encU 1 a.heap m v l) (K : Value → AW → Prop)
    (hK : ∀ v' n' h', a.next ≤ n' → n' ≤ a.next + 1 → OwnS encU 1 h' n' a.next v' (l ++ le N k) → (∀ j, j < a.next → look j h' = look j a.heap) → K v' ⟨n', h', a.base, a.dirty⟩) :
    WCall Try.prog GV 31 [v, .int .u64 N, .int .i64 k] a K := by
  rw [call_env Try.func31 rfl Try.ntmps31 rfl rfl (by simp)]
  obtain ⟨p, c, rfl⟩ := hv.len
  simp -dsimp (maxSteps := 4000000) (disch := first | omega | assumption | (simp only [FB, Nat.reduceAdd]; done) | (simp only [LB]; omega)) only [EB, ↓reduceIte, WB, Nat.reduceSub, Nat.reduceAdd, Int.reduceEq, Int.reduceNe, Int.reduceLT, Int.reduceLE, Int.reduceAdd, Int.reduceSub, Int.reduceMul, Int.reduceNeg, Int.reduceToNat, Nat.reduceEqDiff, Nat.reduceLT, Nat.reduceLeDiff, Nat.reduceMul, List.replicate, reduceCtorEq, TB, NB, wrap64, makeSl_at elem53 z5 rfl (by decide), zero_bytes2]
  have e8 : ((l.length : Int) + 8).toNat = l.length + 8 := by omega
  rw [e8]
  have ho0 : OwnS encU 1 ((a.next, Blk.cells ((List.replicate (l.length + 8) (0 : UInt8)).map u8) true) :: a.heap) (a.next + 1) a.next (.slice (some ⟨a.next, 0, some 0⟩) 0 (l.length + 8)) [] :=
    .inr ⟨some 0, l.length + 8, _, rfl, look_self, by simp, by simp, by simp, .inl rfl, by omega, fun _ => all_u8 _⟩
  have hv0 : RV encU 1 ((a.next, Blk.cells ((List.replicate (l.length + 8) (0 : UInt8)).map u8) true) :: a.heap) m (.slice p l.length c) l := hv.keep (Nat.le_refl _) fun j hj => look_miss (by omega)
  obtain ⟨v1, q1, n1, h1, e1, o1, g1, g2, g3, g4, g5⟩ := append_mine (E := Try.prog) (t0 := 53) (t1 := 53) (bs := a.next) (d := []) app53 encU_len encU_one ho0 (by omega) (by omega) hv0 (by simp only [List.length_nil]; omega)
  rw [e1]
  have hk1' : (1 : Int) ≤ k := by omega
  have hk8' : (k : Int) ≤ 8 := by omega
  simp -dsimp (maxSteps := 4000000) (disch := first | omega | assumption | (simp only [FB, Nat.reduceAdd]; done) | (simp only [LB]; omega)) only [EB, ↓reduceIte, WB, Nat.reduceSub, Nat.reduceAdd, Int.reduceEq, Int.reduceNe, Int.reduceLT, Int.reduceLE, Int.reduceAdd, Int.reduceSub, Int.reduceMul, Int.reduceNeg, Int.reduceToNat, Nat.reduceEqDiff, Nat.reduceLT, Nat.reduceLeDiff, Nat.reduceMul, List.replicate, reduceCtorEq, TB, NB, hk1', hk8', show ¬ ((k : Int) < 1) by omega, show ¬ (8 : Int) < k by omega]
  rw [List.nil_append] at o1
  refine loop_inv (fun r t w => ∃ i n h q v, ∃ e : Nat → Value, r = k - i ∧ i ≤ k ∧ w = ⟨n, h, a.next, []⟩ ∧ t = TT 36 e ∧ OwnS encU 1 h n q v (l ++ le N i) ∧ a.next ≤ q ∧ a.next ≤ n ∧ (∀ j, j < a.next → look j h = look j a.heap) ∧ e 1 = .int .u64 N ∧ e 7 = v ∧ e 22 = .int .i64 k ∧ e 23 = .int .i64 i) ⟨0, n1, h1, q1, v1, _, rfl, by omega, rfl, rfl, by simpa [le] using o1, g3, by omega, fun j hj => by rw [g5 j (by omega) (by omega), look_miss (by omega)], rfl, rfl, rfl, rfl⟩ ?_
  rintro r t w ⟨i, n, h, q, v, e, rfl, hi, rfl, rfl, o, hq, hn, hh, t1, t7, t22, t23⟩
  by_cases hlt : i < k
  · have hsh := byte_shr N i (by omega)
    simp -dsimp (maxSteps := 4000000) (disch := first | omega | assumption | (simp only [FB, Nat.reduceAdd]; done) | (simp only [LB]; omega)) only [EB, ↓reduceIte, WB, Nat.reduceSub, Nat.reduceAdd, Int.reduceEq, Int.reduceNe, Int.reduceLT, Int.reduceLE, Int.reduceAdd, Int.reduceSub, Int.reduceMul, Int.reduceNeg, Int.reduceToNat, Nat.reduceEqDiff, Nat.reduceLT, Nat.reduceLeDiff, Nat.reduceMul, List.replicate, reduceCtorEq, TB, NB, t1, t7, t22, t23, show (i : Int) < k by omega, wrap64, bin_shr, hsh]
    have ho : OwnS encU 1 ((n, Blk.cells [Value.int IntKind.u8 (byteAt N i).toNat] true) :: h) (n + 1) q v (l ++ le N i) := o.keep (by omega) fun hq2 => look_miss (by omega)
    obtain ⟨v2, q2, n2, h2, e2, o2, f1, f2, f3, f4, f5⟩ := append_mine (E := Try.prog) (t0 := 53) (t1 := 53) (bs := a.next) (d := []) app53 encU_len encU_one ho (by omega) (by omega) (RV.one (n := n + 1) (x := byteAt N i) encU_len look_self (by omega)) (by simp only [List.length_append, le_len, List.length_cons, List.length_nil]; omega)
    rw [e2]
    simp -dsimp (maxSteps := 4000000) (disch := first | omega | assumption | (simp only [FB, Nat.reduceAdd]; done) | (simp only [LB]; omega)) only [EB, ↓reduceIte, WB, Nat.reduceSub, Nat.reduceAdd, Int.reduceEq, Int.reduceNe, Int.reduceLT, Int.reduceLE, Int.reduceAdd, Int.reduceSub, Int.reduceMul, Int.reduceNeg, Int.reduceToNat, Nat.reduceEqDiff, Nat.reduceLT, Nat.reduceLeDiff, Nat.reduceMul, List.replicate, reduceCtorEq, TB, NB, t23, wrap64]
    refine ⟨trivial, k - (i + 1), by omega, i + 1, n2, h2, q2, v2, _, rfl, by omega, rfl, rfl, by rw [le_succ, ← List.append_assoc]; exact o2, f3, by omega, fun j hj => by rw [f5 j (by omega) (by omega), look_miss (by omega), hh j hj], ?_⟩
    simp only [ups_at, ↓reduceIte, Nat.reduceEqDiff]
    exact ⟨t1, trivial, t22, (by first | trivial | rfl | omega)⟩
  · simp -dsimp (maxSteps := 4000000) (disch := first | omega | assumption | (simp only [FB, Nat.reduceAdd]; done) | (simp only [LB]; omega)) only [EB, ↓reduceIte, WB, Nat.reduceSub, Nat.reduceAdd, Int.reduceEq, Int.reduceNe, Int.reduceLT, Int.reduceLE, Int.reduceAdd, Int.reduceSub, Int.reduceMul, Int.reduceNeg, Int.reduceToNat, Nat.reduceEqDiff, Nat.reduceLT, Nat.reduceLeDiff, Nat.reduceMul, List.replicate, reduceCtorEq, TB, NB, t1, t7, t22, t23, show ¬ (i : Int) < k by omega]
    obtain rfl : i = k := by omega
    exact leave_own encU_flat o hq fun v' n' h' x1 x2 x3 x4 _ => hK v' n' h' x1 x2 x3 x4
theorem copy_rv {E : Program} {α : Type} {enc : α → List Value} {t0 t1 e : TypeId} {z : Nat} (hel : elemCells E t0 = some (e, z)) (he : ∀ x, (enc x).length = z) (ho1 : ∀ x, (enc x).all Value.oneCell' = true) {h : List (Nat × Blk)} {n m bs : Nat} {d : List Nat} {p : Addr} {len cp : Nat} {c : List Value} (hb : look p.block h = some (.cells c true))
    {x : Value} {ys : List α} (hy : RV enc z h m x ys) (hle : ys.length ≤ len) (hlp : p.off + len * z ≤ c.length) :
    builtinA E .copy #[t0, t1] [.slice (some p) len cp, x] ⟨n, h, bs, d⟩ = some (.int .i64 ys.length, ⟨n, putAt p.block (.cells (c.take p.off ++ (ys.flatMap enc ++ c.drop (p.off + ys.length * z))) true) h, bs, soilW bs d p.block⟩) := by
  obtain ⟨hlen, hcells⟩ := RV.cells (n' := n) (bs := bs) (d := d) hy
  have hfl := flatMap_len he ys
  show copyA E #[t0, t1] (.slice (some p) len cp) x ⟨n, h, bs, d⟩ = _
  unfold copyA
  have e0 : (#[t0, t1] : Array TypeId)[0]? = some t0 := rfl
  rw [e0]
  simp only [hel, hlen]
  have hmin : Nat.min ys.length len = ys.length := Nat.min_eq_left hle
  rw [hmin, firstA_all hlen hcells]
  have h1 : ys.length * z ≤ len * z := Nat.mul_le_mul_right z hle
  have hst : AW.storeN ⟨n, h, bs, d⟩ p (ys.flatMap enc) = some (AW.write ⟨n, h, bs, d⟩ p.block (.cells (c.take p.off ++ (ys.flatMap enc ++ c.drop (p.off + ys.length * z))) true)) := by
    simp only [AW.storeN, get_mk, hb]
    rw [if_pos ⟨by rw [hfl]; omega, allOne ho1 ys⟩, hfl]
  simp only [hst, write_soil]
def zerosTo (l : List UInt8) (n : Nat) : List UInt8 := l ++ List.replicate (n - l.length) 0
/-- A page's body, out of its bytes. -/
def bodyOf (size : Int) (l : List UInt8) : List UInt8 × Int := if goodSz size then (if (l.length : Int) ≤ size - 24 then (zerosTo l (size.toNat - 24), 0) else ([], 3)) else ([], 2)
theorem body32 (size : Int) (v : Value) (l : List UInt8) (hl : l.length ≤ 1000000) (a : AW) (m : Nat) (hm : m ≤ a.next) (hv : RV encU 1 a.heap m v l) (K : Value → AW → Prop) :
    WCall Try.prog GV 32 [.int .i64 size, v] a K = K (.tuple #[.string (mkStr (bodyOf size l).1), .int .i64 (bodyOf size l).2]) a := by
  refine call_eq ?_ K
  rw [call_env Try.func32 rfl Try.ntmps32 rfl rfl (by simp)]
  obtain ⟨p, c, rfl⟩ := hv.len
  by_cases hg : goodSz size
  · have hg' := hg
    simp only [goodSz] at hg'
    have hr : room size = size - 24 := by unfold room; rw [if_pos hg]
    by_cases hle : (l.length : Int) ≤ size - 24
    · simp -dsimp (maxSteps := 4000000) (disch := first | omega | assumption | (simp only [FB, Nat.reduceAdd]; done) | (simp only [LB]; omega)) only [EB, ↓reduceIte, WB, Nat.reduceSub, Nat.reduceAdd, Int.reduceEq, Int.reduceNe, Int.reduceLT, Int.reduceLE, Int.reduceAdd, Int.reduceSub, Int.reduceMul, Int.reduceNeg, Int.reduceToNat, Nat.reduceEqDiff, Nat.reduceLT, Nat.reduceLeDiff, Nat.reduceMul, List.replicate, reduceCtorEq, TB, NB, good52, room53, hg, hr, show ¬ size - 24 < (l.length : Int) by omega, makeSl_at elem53 z5 rfl (by decide), zero_bytes2]
      obtain ⟨s, hs⟩ : ∃ s : Nat, (size - 24).toNat = s := ⟨_, rfl⟩
      rw [hs]
      have hv0 : RV encU 1 ((a.next, Blk.cells ((List.replicate s (0 : UInt8)).map u8) true) :: a.heap) m (.slice p l.length c) l := hv.keep (Nat.le_refl _) fun j hj => look_miss (by omega)
      rw [copy_rv (p := ⟨a.next, 0, some 0⟩) elem53 encU_len encU_one look_self hv0 (by omega) (by simp)]
      rw [encU_map, List.take_zero, List.nil_append, List.map_replicate, List.drop_replicate, soilW_past (Nat.le_refl _), put_self, Nat.zero_add, Nat.mul_one, ← List.map_replicate, ← List.map_append]
      simp -dsimp (maxSteps := 4000000) (disch := first | omega | assumption | (simp only [FB, Nat.reduceAdd]; done) | (simp only [LB]; omega)) only [EB, ↓reduceIte, WB, Nat.reduceSub, Nat.reduceAdd, Int.reduceEq, Int.reduceNe, Int.reduceLT, Int.reduceLE, Int.reduceAdd, Int.reduceSub, Int.reduceMul, Int.reduceNeg, Int.reduceToNat, Nat.reduceEqDiff, Nat.reduceLT, Nat.reduceLeDiff, Nat.reduceMul, List.replicate, reduceCtorEq, TB, NB, ]
      rw [readBytes_at (l := l ++ List.replicate (s - l.length) 0) (rw := true) (by rw [get_mk]; exact look_self) (by simp only [List.length_append, List.length_replicate]; omega)]
      simp -dsimp (maxSteps := 4000000) (disch := first | omega | assumption | (simp only [FB, Nat.reduceAdd]; done) | (simp only [LB]; omega)) only [EB, ↓reduceIte, WB, Nat.reduceSub, Nat.reduceAdd, Int.reduceEq, Int.reduceNe, Int.reduceLT, Int.reduceLE, Int.reduceAdd, Int.reduceSub, Int.reduceMul, Int.reduceNeg, Int.reduceToNat, Nat.reduceEqDiff, Nat.reduceLT, Nat.reduceLeDiff, Nat.reduceMul, List.replicate, reduceCtorEq, TB, NB, ]
      have hb : bodyOf size l = (zerosTo l s, 0) := by unfold bodyOf; rw [if_pos hg, if_pos hle, show size.toNat - 24 = s by omega]
      rw [hb]
      refine ⟨?_, trivial⟩
      simp only [List.drop_zero, zerosTo]
    · simp -dsimp (maxSteps := 4000000) (disch := first | omega | assumption | (simp only [FB, Nat.reduceAdd]; done) | (simp only [LB]; omega)) only [EB, ↓reduceIte, WB, Nat.reduceSub, Nat.reduceAdd, Int.reduceEq, Int.reduceNe, Int.reduceLT, Int.reduceLE, Int.reduceAdd, Int.reduceSub, Int.reduceMul, Int.reduceNeg, Int.reduceToNat, Nat.reduceEqDiff, Nat.reduceLT, Nat.reduceLeDiff, Nat.reduceMul, List.replicate, reduceCtorEq, TB, NB, good52, room53, hg, hr, show size - 24 < (l.length : Int) by omega]
      have hb : bodyOf size l = ([], 3) := by unfold bodyOf; rw [if_pos hg, if_neg hle]
      rw [hb]
      exact ⟨rfl, trivial⟩
  · simp -dsimp (maxSteps := 4000000) (disch := first | omega | assumption | (simp only [FB, Nat.reduceAdd]; done) | (simp only [LB]; omega)) only [EB, ↓reduceIte, WB, Nat.reduceSub, Nat.reduceAdd, Int.reduceEq, Int.reduceNe, Int.reduceLT, Int.reduceLE, Int.reduceAdd, Int.reduceSub, Int.reduceMul, Int.reduceNeg, Int.reduceToNat, Nat.reduceEqDiff, Nat.reduceLT, Nat.reduceLeDiff, Nat.reduceMul, List.replicate, reduceCtorEq, TB, NB, good52, room53, hg]
    simp [bodyOf, hg]
end Go.Proofs.YtpcaoohacgkeiaaAM
