/- Chapter 26: keys, and what they tell. -/
import Derived.Test.YtdgpniekpmoadaaM0
namespace Go.Proofs.YtdgpniekpmoadaaAM
open Go Go.RowKit
set_option linter.unusedVariables false
set_option linter.unusedSimpArgs false
set_option maxRecDepth 10000
set_option maxHeartbeats 4000000

theorem RV.two {α : Type} {enc : α → List Value} {z : Nat} (he : ∀ x, (enc x).length = z) {h : List (Nat × Blk)} {n m : Nat} {x y : α} {rw : Bool} (hb : look m h = some (.cells (enc x ++ enc y) rw)) (hm : m < n) : RV enc z h n (.slice (some ⟨m, 0, some 0⟩) 2 2) [x, y] :=
  .inr ⟨m, 0, some 0, 2, rw, enc x ++ enc y, rfl, hb, hm, by simp [he]; omega, by simp [← he x, ← he y]; rw [List.take_of_length_le]; simp [he]; omega, .inr (.inl rfl), Nat.le_refl _⟩
theorem readBytes_rv {h : List (Nat × Blk)} {m N bs : Nat} {d : List Nat} {v : Value} {l : List UInt8} (hv : RV encU 1 h m v l) : readBytes v ⟨N, h, bs, d⟩ = some (.string (mkStr l)) := by
  rcases hv with ⟨rfl, rfl⟩ | ⟨b, o, sp, cap, rw0, c, rfl, hb, hbm, hc, ht, hsp⟩
  · exact readBytes_nil
  · have hg : (⟨N, h, bs, d⟩ : AW).get b = some (.cells c rw0) := hb
    simp only [Nat.mul_one] at hc ht
    simp only [readBytes, hg, cellsAt, hc, if_true, Option.bind_some, ht, encU_map, bytes_map]
    rfl
theorem RV.block_lt {α : Type} {enc : α → List Value} {z : Nat} {h : List (Nat × Blk)} {m N : Nat} {v : Value} {l : List α} (hv : RV enc z h m v l) (hm : m ≤ N) (h0 : 0 < N) : blockOf v < N := by
  rcases hv with ⟨rfl, rfl⟩ | ⟨b, o, sp, cap, rw0, c, rfl, hb, hbm, hc, ht, hsp⟩
  · exact h0
  · exact Nat.lt_of_lt_of_le hbm hm
theorem byte_shr32 (n i : Nat) (hi : i < 4) : IntKind.wrap .u8 (Int.fdiv (n : Int) (2 ^ (min (8 * (i : Int)).toNat IntKind.u32.bits))) = (byteAt n i).toNat := by
  rw [← byte_shr n i (by omega)]
  have e1 : min (8 * (i : Int)).toNat IntKind.u32.bits = 8 * i := by show min (8 * (i : Int)).toNat 32 = 8 * i; omega
  have e2 : min (8 * (i : Int)).toNat IntKind.u64.bits = 8 * i := by show min (8 * (i : Int)).toNat 64 = 8 * i; omega
  rw [e1, e2]
theorem byte_lo (n : Nat) : IntKind.wrap .u8 (n : Int) = (byteAt n 0).toNat := by
  rw [← byte_shr32 n 0 (by omega)]
  simp [Int.fdiv_one]
theorem byte_hi (n : Nat) : IntKind.wrap .u8 (Int.fdiv (n : Int) (2 ^ (min 8 IntKind.i64.bits))) = (byteAt n 1).toNat := by
  rw [← byte_shr32 n 1 (by omega)]
  rfl
theorem byte_c1 (n : Nat) : IntKind.wrap .u8 (Int.fdiv (n : Int) (2 ^ (min 8 IntKind.u32.bits))) = (byteAt n 1).toNat := by
  rw [← byte_shr32 n 1 (by omega)]
  rfl
theorem byte_c2 (n : Nat) : IntKind.wrap .u8 (Int.fdiv (n : Int) (2 ^ (min 16 IntKind.u32.bits))) = (byteAt n 2).toNat := by
  rw [← byte_shr32 n 2 (by omega)]
  rfl
theorem byte_c3 (n : Nat) : IntKind.wrap .u8 (Int.fdiv (n : Int) (2 ^ (min 24 IntKind.u32.bits))) = (byteAt n 3).toNat := by
  rw [← byte_shr32 n 3 (by omega)]
  rfl
def slotN (x : Int) : Nat := (min (max x 0) 65535).toNat
theorem slotN_eq (x : Int) : min (max x 0) 65535 = (slotN x : Int) := by unfold slotN; omega
/-- An orphan's key. -/
def kbytes (o : Or') : List UInt8 := [byteAt o.page.toNat 3, byteAt o.page.toNat 2, byteAt o.page.toNat 1, byteAt o.page.toNat 0, byteAt (slotN o.slot) 1, byteAt (slotN o.slot) 0] ++ o.key.take 34
theorem take_min (s : List UInt8) : s.take (min (s.length : Int) 34).toNat = s.take 34 := by
  rcases Nat.lt_or_ge s.length 34 with h | h
  · rw [show (min (s.length : Int) 34).toNat = s.length by omega, List.take_length, List.take_of_length_le (by omega)]
  · rw [show (min (s.length : Int) 34).toNat = 34 by omega]
theorem key10 (o : Or') (hp : 0 ≤ o.page ∧ o.page ≤ 4294967295) (hk : o.key.length ≤ 140737488355) (a : AW) (K) : WCall Try.prog GV 10 [.agg (encO o).toArray] a K = K (.string (mkStr (kbytes o))) a := by
  refine call_eq ?_ K
  rw [call_env Try.func10 rfl Try.ntmps10 rfl rfl (by simp), encO]
  obtain ⟨P, hP⟩ : ∃ P : Nat, o.page = P := ⟨o.page.toNat, by omega⟩
  have hkb : kbytes o = (List.range 4).map (fun j => byteAt P (3 - j)) ++ [byteAt (slotN o.slot) 1, byteAt (slotN o.slot) 0] ++ o.key.take 34 := by
    unfold kbytes; rw [hP]; rfl
  rw [hP]
  simp -dsimp (maxSteps := 4000000) (disch := first | omega | assumption | (simp only [FB, Nat.reduceAdd]; done) | (simp only [LB]; omega)) only [EB, ↓reduceIte, WB, Nat.reduceSub, Nat.reduceAdd, Int.reduceEq, Int.reduceNe, Int.reduceLT, Int.reduceLE, Int.reduceAdd, Int.reduceSub, Int.reduceMul, Int.reduceNeg, Int.reduceToNat, Nat.reduceEqDiff, Nat.reduceLT, Nat.reduceLeDiff, Nat.reduceMul, List.replicate, reduceCtorEq, TB, NB, MB, ]
  refine loop_inv (fun r t w => ∃ k n h q v, ∃ e : Nat → Value, r = 4 - k ∧ k ≤ 4 ∧ w = ⟨n, h, a.next, []⟩ ∧ a.next + 1 ≤ n ∧ (∀ j, j < a.next → look j h = look j a.heap) ∧ look a.next h = some (.cells [.int .u32 P, .int .i64 o.slot, .string (mkStr o.key), .string (mkStr o.val)] true) ∧ t = TT 41 e ∧ OwnS encU 1 h n q v ((List.range k).map fun j => byteAt P (3 - j)) ∧ a.next + 1 ≤ q ∧ e 1 = .pointer (some ⟨a.next, 0, none⟩) ∧ e 3 = v ∧ e 4 = .int .i64 (3 - (k : Int)))
    ⟨0, a.next + 1, _, a.next + 1, _, _, rfl, by omega, rfl, Nat.le_refl _, fun j hj => look_miss (by omega), look_self, rfl, OwnS.nil, Nat.le_refl _, rfl, rfl, rfl⟩ ?_
  rintro r t w ⟨k, n, h, q, v, e, rfl, hk4, rfl, hn, hh, hbx, rfl, ho, hq, t1, t3, t4⟩
  by_cases hlt : k < 4
  · have hsh := byte_shr32 P (3 - k) (by omega)
    have h3 : ((3 - k : Nat) : Int) = 3 - (k : Int) := by omega
    rw [h3] at hsh
    simp -dsimp (maxSteps := 4000000) (disch := first | omega | assumption | (simp only [FB, Nat.reduceAdd]; done) | (simp only [LB]; omega)) only [EB, ↓reduceIte, WB, Nat.reduceSub, Nat.reduceAdd, Int.reduceEq, Int.reduceNe, Int.reduceLT, Int.reduceLE, Int.reduceAdd, Int.reduceSub, Int.reduceMul, Int.reduceNeg, Int.reduceToNat, Nat.reduceEqDiff, Nat.reduceLT, Nat.reduceLeDiff, Nat.reduceMul, List.replicate, reduceCtorEq, TB, NB, MB, t1, t3, t4, show (0 : Int) ≤ 3 - (k : Int) by omega, wrap64, hbx, bin_shr, hsh]
    have ho' : OwnS encU 1 ((n, Blk.cells [Value.int IntKind.u8 (byteAt P (3 - k)).toNat] true) :: h) (n + 1) q v ((List.range k).map fun j => byteAt P (3 - j)) := ho.keep (by omega) fun hq2 => look_miss (by omega)
    obtain ⟨v2, q2, n2, h2, e2, o2, f1, f2, f3, f4, f5⟩ := append_mine (E := Try.prog) (t0 := 48) (t1 := 48) (bs := a.next) (d := []) app48 encU_len encU_one ho' (by omega) (by omega) (RV.one (n := n + 1) (x := byteAt P (3 - k)) encU_len look_self (by omega)) (by simp only [List.length_map, List.length_range, List.length_cons, List.length_nil]; omega)
    rw [e2]
    simp -dsimp (maxSteps := 4000000) (disch := first | omega | assumption | (simp only [FB, Nat.reduceAdd]; done) | (simp only [LB]; omega)) only [EB, ↓reduceIte, WB, Nat.reduceSub, Nat.reduceAdd, Int.reduceEq, Int.reduceNe, Int.reduceLT, Int.reduceLE, Int.reduceAdd, Int.reduceSub, Int.reduceMul, Int.reduceNeg, Int.reduceToNat, Nat.reduceEqDiff, Nat.reduceLT, Nat.reduceLeDiff, Nat.reduceMul, List.replicate, reduceCtorEq, TB, NB, MB, t4, wrap64]
    refine ⟨trivial, 4 - (k + 1), by omega, k + 1, n2, h2, q2, v2, _, rfl, by omega, rfl, by omega, fun j hj => by rw [f5 j (by omega) (by omega), look_miss (by omega), hh j hj], by rw [f5 _ (by omega) (by omega), look_miss (by omega), hbx], rfl, ?_, by omega, ?_⟩
    · rw [List.range_succ, List.map_append]; exact o2
    · simp only [ups_at, ↓reduceIte, Nat.reduceEqDiff]
      exact ⟨t1, trivial, by congr 1; omega⟩
  · obtain rfl : k = 4 := by omega
    have hse := slotN_eq o.slot
    simp -dsimp (maxSteps := 4000000) (disch := first | omega | assumption | (simp only [FB, Nat.reduceAdd]; done) | (simp only [LB]; omega)) only [EB, ↓reduceIte, WB, Nat.reduceSub, Nat.reduceAdd, Int.reduceEq, Int.reduceNe, Int.reduceLT, Int.reduceLE, Int.reduceAdd, Int.reduceSub, Int.reduceMul, Int.reduceNeg, Int.reduceToNat, Nat.reduceEqDiff, Nat.reduceLT, Nat.reduceLeDiff, Nat.reduceMul, List.replicate, reduceCtorEq, TB, NB, MB, t1, t3, t4, show ¬ (0 : Int) ≤ 3 - ((4 : Nat) : Int) by omega, hbx, hse, bin_shr, byte_lo, byte_hi]
    have ho' : OwnS encU 1 ((n, Blk.cells [Value.int IntKind.u8 (byteAt (slotN o.slot) 1).toNat, Value.int IntKind.u8 (byteAt (slotN o.slot) 0).toNat] true) :: h) (n + 1) q v ((List.range 4).map fun j => byteAt P (3 - j)) := ho.keep (by omega) fun hq2 => look_miss (by omega)
    obtain ⟨v2, q2, n2, h2, e2, o2, f1, f2, f3, f4, f5⟩ := append_mine (E := Try.prog) (t0 := 48) (t1 := 48) (bs := a.next) (d := []) app48 encU_len encU_one ho' (by omega) (by omega) (RV.two (n := n + 1) (x := byteAt (slotN o.slot) 1) (y := byteAt (slotN o.slot) 0) encU_len look_self (by omega)) (by simp only [List.length_map, List.length_range, List.length_cons, List.length_nil]; omega)
    rw [e2]
    have hbx2 : look a.next h2 = some (.cells [.int .u32 P, .int .i64 o.slot, .string (mkStr o.key), .string (mkStr o.val)] true) := by rw [f5 _ (by omega) (by omega), look_miss (by omega), hbx]
    simp -dsimp (maxSteps := 4000000) (disch := first | omega | assumption | (simp only [FB, Nat.reduceAdd]; done) | (simp only [LB]; omega)) only [EB, ↓reduceIte, WB, Nat.reduceSub, Nat.reduceAdd, Int.reduceEq, Int.reduceNe, Int.reduceLT, Int.reduceLE, Int.reduceAdd, Int.reduceSub, Int.reduceMul, Int.reduceNeg, Int.reduceToNat, Nat.reduceEqDiff, Nat.reduceLT, Nat.reduceLeDiff, Nat.reduceMul, List.replicate, reduceCtorEq, TB, NB, MB, ]
    refine code_draw [(0, 2), (0, 3), (0, 4), (0, 5), (0, 6), (0, 7), (0, 8), (1, 2), (1, 3), (1, 4), (1, 5), (1, 6), (1, 7), (1, 8), (2, 4), (2, 5), (2, 6), (2, 7), (3, 4), (3, 5), (3, 6), (3, 7)] (by decide +kernel) (by decide +kernel) ?_
    have hrb := fun N bs d => readBytes_rv (N := N) (bs := bs) (d := d) o2.rv
    have hbl : blockOf v2 < n2 + 1 := o2.rv.block_lt (by omega) (by omega)
    have hsa := str_add (p := (List.range 4).map (fun j => byteAt P (3 - j)) ++ [byteAt (slotN o.slot) 1, byteAt (slotN o.slot) 0]) (q := o.key.take 34) (by simp only [List.length_append, List.length_map, List.length_range, List.length_cons, List.length_nil, List.length_take]; omega)
    simp -dsimp (maxSteps := 4000000) (disch := first | omega | assumption | (simp only [FB, Nat.reduceAdd]; done) | (simp only [LB]; omega)) only [EB, ↓reduceIte, WB, Nat.reduceSub, Nat.reduceAdd, Int.reduceEq, Int.reduceNe, Int.reduceLT, Int.reduceLE, Int.reduceAdd, Int.reduceSub, Int.reduceMul, Int.reduceNeg, Int.reduceToNat, Nat.reduceEqDiff, Nat.reduceLT, Nat.reduceLeDiff, Nat.reduceMul, List.replicate, reduceCtorEq, RB, Nat.reduceEqDiff, TB, NB, MB, hrb, hbl, hsa, t1, hbx2, show a.next < n2 + 1 by omega, show (0 : Int) ≤ min (o.key.length : Int) 34 by omega, show min (o.key.length : Int) 34 ≤ o.key.length by omega, take_min, str_add]
    rw [hkb]
theorem build6 {a : AW} {b0 b1 b2 b3 b4 b5 : UInt8} : buildSl Try.prog 48 6 [(0, .int .u8 b0.toNat), (1, .int .u8 b1.toNat), (2, .int .u8 b2.toNat), (3, .int .u8 b3.toNat), (4, .int .u8 b4.toNat), (5, .int .u8 b5.toNat)] a = some (.slice (some ⟨a.next, 0, some 0⟩) 6 6, a.new (.cells [.int .u8 b0.toNat, .int .u8 b1.toNat, .int .u8 b2.toNat, .int .u8 b3.toNat, .int .u8 b4.toNat, .int .u8 b5.toNat] true)) :=
  buildSl_seq (len := 6) sl48 (vs := [.int .u8 b0.toNat, .int .u8 b1.toNat, .int .u8 b2.toNat, .int .u8 b3.toNat, .int .u8 b4.toNat, .int .u8 b5.toNat]) (by intro v hv; simp at hv; rcases hv with rfl | rfl | rfl | rfl | rfl | rfl <;> rfl) rfl (by decide) (by decide) rfl
theorem key20 (o : Or') (hp : 0 ≤ o.page ∧ o.page ≤ 4294967295) (hk : o.key.length ≤ 140737488355) (a : AW) (K) : WCall Try.prog GV 20 [.agg (encO o).toArray] a K = K (.string (mkStr (kbytes o))) a := by
  refine call_eq ?_ K
  rw [call_env Try.func20 rfl Try.ntmps20 rfl rfl (by simp), encO]
  obtain ⟨P, hP⟩ : ∃ P : Nat, o.page = P := ⟨o.page.toNat, by omega⟩
  have hkb : kbytes o = [byteAt P 3, byteAt P 2, byteAt P 1, byteAt P 0, byteAt (slotN o.slot) 1, byteAt (slotN o.slot) 0] ++ o.key.take 34 := by
    unfold kbytes; rw [hP]; rfl
  rw [hP]
  have hse := slotN_eq o.slot
  simp -dsimp (maxSteps := 4000000) (disch := first | omega | assumption | (simp only [FB, Nat.reduceAdd]; done) | (simp only [LB]; omega)) only [EB, ↓reduceIte, WB, Nat.reduceSub, Nat.reduceAdd, Int.reduceEq, Int.reduceNe, Int.reduceLT, Int.reduceLE, Int.reduceAdd, Int.reduceSub, Int.reduceMul, Int.reduceNeg, Int.reduceToNat, Nat.reduceEqDiff, Nat.reduceLT, Nat.reduceLeDiff, Nat.reduceMul, List.replicate, reduceCtorEq, TB, NB, MB, hse, bin_shr, byte_lo, byte_hi, byte_c1, byte_c2, byte_c3, build6]
  refine code_draw [(0, 2), (0, 3), (0, 4), (0, 5), (0, 6), (0, 7), (0, 8), (1, 2), (1, 3), (1, 4), (1, 5), (1, 6), (1, 7), (1, 8), (2, 4), (2, 5), (2, 6), (2, 7), (3, 4), (3, 5), (3, 6), (3, 7)] (by decide +kernel) (by decide +kernel) ?_
  have hrb : ∀ N bs d, readBytes (.slice (some ⟨a.next + 1, 0, some 0⟩) 6 6) ⟨N, (a.next + 1, Blk.cells [.int .u8 (byteAt P 3).toNat, .int .u8 (byteAt P 2).toNat, .int .u8 (byteAt P 1).toNat, .int .u8 (byteAt P 0).toNat, .int .u8 (byteAt (slotN o.slot) 1).toNat, .int .u8 (byteAt (slotN o.slot) 0).toNat] true) :: (a.next, Blk.cells [.int .u32 P, .int .i64 o.slot, .string (mkStr o.key), .string (mkStr o.val)] true) :: a.heap, bs, d⟩ = some (.string (mkStr [byteAt P 3, byteAt P 2, byteAt P 1, byteAt P 0, byteAt (slotN o.slot) 1, byteAt (slotN o.slot) 0])) := fun N bs d =>
    readBytes_at (p := ⟨a.next + 1, 0, some 0⟩) (l := [byteAt P 3, byteAt P 2, byteAt P 1, byteAt P 0, byteAt (slotN o.slot) 1, byteAt (slotN o.slot) 0]) (rw := true) (by rw [get_mk]; exact look_self) (by simp)
  simp -dsimp (maxSteps := 4000000) (disch := first | omega | assumption | (simp only [FB, Nat.reduceAdd]; done) | (simp only [LB]; omega)) only [EB, ↓reduceIte, WB, Nat.reduceSub, Nat.reduceAdd, Int.reduceEq, Int.reduceNe, Int.reduceLT, Int.reduceLE, Int.reduceAdd, Int.reduceSub, Int.reduceMul, Int.reduceNeg, Int.reduceToNat, Nat.reduceEqDiff, Nat.reduceLT, Nat.reduceLeDiff, Nat.reduceMul, List.replicate, reduceCtorEq, RB, Nat.reduceEqDiff, TB, NB, MB, hrb, show a.next + 1 < a.next + 3 by omega, show a.next < a.next + 3 by omega, show a.next ≠ a.next + 1 by omega, show (0 : Int) ≤ min (o.key.length : Int) 34 by omega, show min (o.key.length : Int) 34 ≤ o.key.length by omega, take_min, str_add]
  rw [hkb]
  rfl
theorem keys27 (r : Nat) (a : AW) (K : Value → AW → Prop) : WCall Try.prog GV 27 [.map (some r)] a K = K (.func (.func 31) #[] #[.pointer (some ⟨a.next, 0, none⟩)]) ⟨a.next + 1, (a.next, .cells [.map (some r)] true) :: a.heap, a.base, a.dirty⟩ := by
  refine call_eq ?_ K
  rw [call_env Try.func27 rfl Try.ntmps27 rfl rfl (by simp)]
  simp -dsimp (maxSteps := 4000000) (disch := first | omega | assumption | (simp only [FB, Nat.reduceAdd]; done) | (simp only [LB]; omega)) only [EB, ↓reduceIte, WB, Nat.reduceSub, Nat.reduceAdd, Int.reduceEq, Int.reduceNe, Int.reduceLT, Int.reduceLE, Int.reduceAdd, Int.reduceSub, Int.reduceMul, Int.reduceNeg, Int.reduceToNat, Nat.reduceEqDiff, Nat.reduceLT, Nat.reduceLeDiff, Nat.reduceMul, List.replicate, reduceCtorEq, TB, NB, MB, ]
  rw [leave_func rfl]
  exact ⟨rfl, rfl⟩
/-- Keys rise. -/
def sortP (l : List Pr) : Prop := ∀ j, (h : j + 1 < l.length) → Op.bytesLess l[j].key l[j + 1].key = true
noncomputable def sortB (l : List Pr) : Bool := @decide (sortP l) (Classical.propDecidable _)
theorem sortB_true {l : List Pr} (h : sortP l) : sortB l = true := by unfold sortB; simp [h]
theorem sortB_false {l : List Pr} (h : ¬ sortP l) : sortB l = false := by unfold sortB; simp [h]
theorem sorted18 (v : Value) (l : List Pr) (hl : l.length ≤ 140737488355328) (a : AW) (m : Nat) (hm : m ≤ a.next) (hv : RV encPr 2 a.heap m v l) (K : Value → AW → Prop) :
    WCall Try.prog GV 18 [v] a K = K (.bool (sortB l)) a := by
  refine call_eq ?_ K
  rw [call_env Try.func18 rfl Try.ntmps18 rfl rfl (by simp)]
  obtain ⟨pp, c, rfl⟩ := hv.len
  simp -dsimp (maxSteps := 4000000) (disch := first | omega | assumption | (simp only [FB, Nat.reduceAdd]; done) | (simp only [LB]; omega)) only [EB, ↓reduceIte, WB, Nat.reduceSub, Nat.reduceAdd, Int.reduceEq, Int.reduceNe, Int.reduceLT, Int.reduceLE, Int.reduceAdd, Int.reduceSub, Int.reduceMul, Int.reduceNeg, Int.reduceToNat, Nat.reduceEqDiff, Nat.reduceLT, Nat.reduceLeDiff, Nat.reduceMul, List.replicate, reduceCtorEq, TB, NB, MB, ]
  refine loop_inv (fun r t w => ∃ i n, ∃ e : Nat → Value, r = l.length - i ∧ i ≤ l.length ∧ w = ⟨n, a.heap, a.next, []⟩ ∧ a.next ≤ n ∧ t = TT 26 e ∧ (∀ j, (h : j + 1 < l.length) → j + 1 < i → Op.bytesLess l[j].key l[j + 1].key = true) ∧ e 0 = .slice pp l.length c ∧ e 5 = .int .i64 l.length ∧ e 6 = .int .i64 i) ⟨0, a.next, _, rfl, by omega, rfl, Nat.le_refl _, rfl, fun j _ hj => absurd hj (by omega), rfl, rfl, rfl⟩ ?_
  rintro r t w ⟨i, n, e, rfl, hi, rfl, hn1, rfl, hok, t0, t5, t6⟩
  by_cases hlt : i < l.length
  · by_cases h0 : 0 < i
    · obtain ⟨b, o, sp, rw0, cc, e1, hlk', hbn, hle, hat, hkk⟩ := hv.at encPr_len hlt
      subst e1
      have hkey : cc[o + i * 2]? = some (.string (mkStr l[i].key)) := by have := hkk 0 (by omega); simpa [encPr] using this
      obtain ⟨b2, o2, sp2, rw2, cc2, e2, hlk2, hbn2, hle2, -, hk2⟩ := hv.at encPr_len (i := i - 1) (by omega)
      cases e2
      rw [hlk'] at hlk2
      cases hlk2
      have hn0 : cc[o + (i - 1) * 2]? = some (.string (mkStr l[i - 1].key)) := by have := hk2 0 (by omega); simpa [encPr] using this
      by_cases h2 : Op.bytesLess l[i - 1].key l[i].key = true
      · simp -dsimp (maxSteps := 4000000) (disch := first | omega | assumption | (simp only [FB, Nat.reduceAdd]; done) | (simp only [LB]; omega)) only [EB, ↓reduceIte, WB, Nat.reduceSub, Nat.reduceAdd, Int.reduceEq, Int.reduceNe, Int.reduceLT, Int.reduceLE, Int.reduceAdd, Int.reduceSub, Int.reduceMul, Int.reduceNeg, Int.reduceToNat, Nat.reduceEqDiff, Nat.reduceLT, Nat.reduceLeDiff, Nat.reduceMul, List.replicate, reduceCtorEq, TB, NB, MB, t0, t5, t6, show (i : Int) < l.length by omega]
        refine code_draw [(3, 4), (3, 5), (3, 9), (3, 10), (3, 11), (3, 12), (3, 13), (4, 9), (4, 10), (4, 11), (4, 12), (4, 13), (5, 9), (5, 10), (5, 11), (5, 12), (5, 13), (6, 9), (6, 10), (6, 11), (6, 12), (6, 13), (7, 9), (7, 10), (7, 11), (7, 12), (7, 13), (8, 9), (8, 10), (8, 11), (8, 12), (8, 13), (9, 10)] (by decide +kernel) (by decide +kernel) ?_
        simp -dsimp (maxSteps := 4000000) (disch := first | omega | assumption | (simp only [FB, Nat.reduceAdd]; done) | (simp only [LB]; omega)) only [EB, ↓reduceIte, WB, Nat.reduceSub, Nat.reduceAdd, Int.reduceEq, Int.reduceNe, Int.reduceLT, Int.reduceLE, Int.reduceAdd, Int.reduceSub, Int.reduceMul, Int.reduceNeg, Int.reduceToNat, Nat.reduceEqDiff, Nat.reduceLT, Nat.reduceLeDiff, Nat.reduceMul, List.replicate, reduceCtorEq, RB, Nat.reduceEqDiff, TB, NB, MB, t0, t6, show (0 : Int) < i by omega, wrap64, show ((i : Int) - 1).toNat = i - 1 by omega, hlk', hn0, hkey, h2, show b < n + 1 by omega]
        refine ⟨l.length - (i + 1), by omega, i + 1, n + 1, _, rfl, by omega, (by first | trivial | rfl | omega), by omega, rfl, fun j hj hji => ?_, ?_⟩
        · rcases Nat.lt_or_ge (j + 1) i with h | h
          · exact hok j hj h
          · obtain rfl : i = j + 1 := by omega
            simpa using h2
        · simp only [ups_at, ↓reduceIte, Nat.reduceEqDiff]; exact ⟨t0, t5, (by first | trivial | rfl | omega)⟩
      · have h2' : Op.bytesLess l[i - 1].key l[i].key = false := by simpa using h2
        simp -dsimp (maxSteps := 4000000) (disch := first | omega | assumption | (simp only [FB, Nat.reduceAdd]; done) | (simp only [LB]; omega)) only [EB, ↓reduceIte, WB, Nat.reduceSub, Nat.reduceAdd, Int.reduceEq, Int.reduceNe, Int.reduceLT, Int.reduceLE, Int.reduceAdd, Int.reduceSub, Int.reduceMul, Int.reduceNeg, Int.reduceToNat, Nat.reduceEqDiff, Nat.reduceLT, Nat.reduceLeDiff, Nat.reduceMul, List.replicate, reduceCtorEq, TB, NB, MB, t0, t5, t6, show (i : Int) < l.length by omega]
        refine code_draw [(3, 4), (3, 5), (3, 9), (3, 10), (3, 11), (3, 12), (3, 13), (4, 9), (4, 10), (4, 11), (4, 12), (4, 13), (5, 9), (5, 10), (5, 11), (5, 12), (5, 13), (6, 9), (6, 10), (6, 11), (6, 12), (6, 13), (7, 9), (7, 10), (7, 11), (7, 12), (7, 13), (8, 9), (8, 10), (8, 11), (8, 12), (8, 13), (9, 10)] (by decide +kernel) (by decide +kernel) ?_
        simp -dsimp (maxSteps := 4000000) (disch := first | omega | assumption | (simp only [FB, Nat.reduceAdd]; done) | (simp only [LB]; omega)) only [EB, ↓reduceIte, WB, Nat.reduceSub, Nat.reduceAdd, Int.reduceEq, Int.reduceNe, Int.reduceLT, Int.reduceLE, Int.reduceAdd, Int.reduceSub, Int.reduceMul, Int.reduceNeg, Int.reduceToNat, Nat.reduceEqDiff, Nat.reduceLT, Nat.reduceLeDiff, Nat.reduceMul, List.replicate, reduceCtorEq, RB, Nat.reduceEqDiff, TB, NB, MB, t0, t6, show (0 : Int) < i by omega, wrap64, show ((i : Int) - 1).toNat = i - 1 by omega, hlk', hn0, hkey, h2', show b < n + 1 by omega]
        have h3 := fun h : sortP l => h (i - 1) (by omega)
        rw [sortB_false fun h => by
          have := h3 h
          simp only [show i - 1 + 1 = i by omega] at this
          exact h2 this]
    · simp -dsimp (maxSteps := 4000000) (disch := first | omega | assumption | (simp only [FB, Nat.reduceAdd]; done) | (simp only [LB]; omega)) only [EB, ↓reduceIte, WB, Nat.reduceSub, Nat.reduceAdd, Int.reduceEq, Int.reduceNe, Int.reduceLT, Int.reduceLE, Int.reduceAdd, Int.reduceSub, Int.reduceMul, Int.reduceNeg, Int.reduceToNat, Nat.reduceEqDiff, Nat.reduceLT, Nat.reduceLeDiff, Nat.reduceMul, List.replicate, reduceCtorEq, TB, NB, MB, t0, t5, t6, show (i : Int) < l.length by omega]
      refine code_draw [(3, 4), (3, 5), (3, 9), (3, 10), (3, 11), (3, 12), (3, 13), (4, 9), (4, 10), (4, 11), (4, 12), (4, 13), (5, 9), (5, 10), (5, 11), (5, 12), (5, 13), (6, 9), (6, 10), (6, 11), (6, 12), (6, 13), (7, 9), (7, 10), (7, 11), (7, 12), (7, 13), (8, 9), (8, 10), (8, 11), (8, 12), (8, 13), (9, 10)] (by decide +kernel) (by decide +kernel) ?_
      simp -dsimp (maxSteps := 4000000) (disch := first | omega | assumption | (simp only [FB, Nat.reduceAdd]; done) | (simp only [LB]; omega)) only [EB, ↓reduceIte, WB, Nat.reduceSub, Nat.reduceAdd, Int.reduceEq, Int.reduceNe, Int.reduceLT, Int.reduceLE, Int.reduceAdd, Int.reduceSub, Int.reduceMul, Int.reduceNeg, Int.reduceToNat, Nat.reduceEqDiff, Nat.reduceLT, Nat.reduceLeDiff, Nat.reduceMul, List.replicate, reduceCtorEq, RB, Nat.reduceEqDiff, TB, NB, MB, t0, t6, show ¬ (0 : Int) < i by omega, wrap64]
      refine ⟨l.length - (i + 1), by omega, i + 1, n + 1, _, rfl, by omega, (by first | trivial | rfl | omega), by omega, rfl, fun j hj hji => absurd hji (by omega), ?_⟩
      simp only [ups_at, ↓reduceIte, Nat.reduceEqDiff]; exact ⟨t0, t5, (by first | trivial | rfl | omega)⟩
  · obtain rfl : i = l.length := by omega
    simp -dsimp (maxSteps := 4000000) (disch := first | omega | assumption | (simp only [FB, Nat.reduceAdd]; done) | (simp only [LB]; omega)) only [EB, ↓reduceIte, WB, Nat.reduceSub, Nat.reduceAdd, Int.reduceEq, Int.reduceNe, Int.reduceLT, Int.reduceLE, Int.reduceAdd, Int.reduceSub, Int.reduceMul, Int.reduceNeg, Int.reduceToNat, Nat.reduceEqDiff, Nat.reduceLT, Nat.reduceLeDiff, Nat.reduceMul, List.replicate, reduceCtorEq, TB, NB, MB, t0, t5, t6, show ¬ (l.length : Int) < l.length by omega]
    rw [sortB_true fun j hj => hok j hj hj]
    exact ⟨(by first | trivial | rfl | omega), (by first | trivial | rfl | omega)⟩
theorem sorted23 (v : Value) (l : List Pr) (hl : l.length ≤ 140737488355328) (a : AW) (m : Nat) (hm : m ≤ a.next) (hv : RV encPr 2 a.heap m v l) (K : Value → AW → Prop) :
    WCall Try.prog GV 23 [v] a K = K (.bool (sortB l)) a := by
  refine call_eq ?_ K
  rw [call_env Try.func23 rfl Try.ntmps23 rfl rfl (by simp)]
  obtain ⟨pp, c, rfl⟩ := hv.len
  simp -dsimp (maxSteps := 4000000) (disch := first | omega | assumption | (simp only [FB, Nat.reduceAdd]; done) | (simp only [LB]; omega)) only [EB, ↓reduceIte, WB, Nat.reduceSub, Nat.reduceAdd, Int.reduceEq, Int.reduceNe, Int.reduceLT, Int.reduceLE, Int.reduceAdd, Int.reduceSub, Int.reduceMul, Int.reduceNeg, Int.reduceToNat, Nat.reduceEqDiff, Nat.reduceLT, Nat.reduceLeDiff, Nat.reduceMul, List.replicate, reduceCtorEq, TB, NB, MB, ]
  refine loop_inv (fun r t w => ∃ i n, ∃ e : Nat → Value, r = l.length - i ∧ w = ⟨n, a.heap, a.next, []⟩ ∧ a.next ≤ n ∧ t = TT 22 e ∧ (∀ j, (h : j + 1 < l.length) → j < i → Op.bytesLess l[j].key l[j + 1].key = true) ∧ e 0 = .slice pp l.length c ∧ e 3 = .int .i64 (i + 1 : Nat) ∧ i ≤ l.length) ⟨0, a.next, _, rfl, rfl, Nat.le_refl _, rfl, fun j _ hj => absurd hj (by omega), rfl, rfl, by omega⟩ ?_
  rintro r t w ⟨i, n, e, rfl, rfl, hn1, rfl, hok, t0, t3, hil⟩
  by_cases hlt : i + 1 < l.length
  · obtain ⟨b, o, sp, rw0, cc, e1, hlk', hbn, hle, hat, hkk⟩ := hv.at encPr_len hlt
    subst e1
    have hkey : cc[o + (i + 1) * 2]? = some (.string (mkStr l[i + 1].key)) := by have := hkk 0 (by omega); simpa [encPr] using this
    obtain ⟨b2, o2, sp2, rw2, cc2, e2, hlk2, hbn2, hle2, -, hk2⟩ := hv.at encPr_len (i := i) (by omega)
    cases e2
    rw [hlk'] at hlk2
    cases hlk2
    have hn0 : cc[o + i * 2]? = some (.string (mkStr l[i].key)) := by have := hk2 0 (by omega); simpa [encPr] using this
    by_cases h2 : Op.bytesLess l[i].key l[i + 1].key = true
    · simp -dsimp (maxSteps := 4000000) (disch := first | omega | assumption | (simp only [FB, Nat.reduceAdd]; done) | (simp only [LB]; omega)) only [EB, ↓reduceIte, WB, Nat.reduceSub, Nat.reduceAdd, Int.reduceEq, Int.reduceNe, Int.reduceLT, Int.reduceLE, Int.reduceAdd, Int.reduceSub, Int.reduceMul, Int.reduceNeg, Int.reduceToNat, Nat.reduceEqDiff, Nat.reduceLT, Nat.reduceLeDiff, Nat.reduceMul, List.replicate, reduceCtorEq, TB, NB, MB, t0, t3, show ((i + 1 : Nat) : Int) < l.length by omega]
      refine code_draw [(0, 1), (0, 2), (0, 6), (0, 7), (0, 8), (0, 9), (0, 10), (1, 6), (1, 7), (1, 8), (1, 9), (1, 10), (2, 6), (2, 7), (2, 8), (2, 9), (2, 10), (3, 6), (3, 7), (3, 8), (3, 9), (3, 10), (4, 6), (4, 7), (4, 8), (4, 9), (4, 10), (5, 6), (5, 7), (5, 8), (5, 9), (5, 10), (6, 7)] (by decide +kernel) (by decide +kernel) ?_
      simp -dsimp (maxSteps := 4000000) (disch := first | omega | assumption | (simp only [FB, Nat.reduceAdd]; done) | (simp only [LB]; omega)) only [EB, ↓reduceIte, WB, Nat.reduceSub, Nat.reduceAdd, Int.reduceEq, Int.reduceNe, Int.reduceLT, Int.reduceLE, Int.reduceAdd, Int.reduceSub, Int.reduceMul, Int.reduceNeg, Int.reduceToNat, Nat.reduceEqDiff, Nat.reduceLT, Nat.reduceLeDiff, Nat.reduceMul, List.replicate, reduceCtorEq, RB, Nat.reduceEqDiff, TB, NB, MB, t0, t3, wrap64, show (((i + 1 : Nat) : Int) - 1).toNat = i by omega, Int.toNat_natCast, hlk', hn0, hkey, h2, show b < n + 1 by omega]
      refine ⟨l.length - (i + 1), by omega, i + 1, n + 1, _, rfl, (by first | trivial | rfl | omega), by omega, rfl, fun j hj hji => ?_, ?_⟩
      · rcases Nat.lt_or_ge j i with h | h
        · exact hok j hj h
        · obtain rfl : i = j := by omega
          exact h2
      · simp only [ups_at, ↓reduceIte, Nat.reduceEqDiff]; exact ⟨t0, (by first | trivial | rfl | omega), by omega⟩
    · have h2' : Op.bytesLess l[i].key l[i + 1].key = false := by simpa using h2
      simp -dsimp (maxSteps := 4000000) (disch := first | omega | assumption | (simp only [FB, Nat.reduceAdd]; done) | (simp only [LB]; omega)) only [EB, ↓reduceIte, WB, Nat.reduceSub, Nat.reduceAdd, Int.reduceEq, Int.reduceNe, Int.reduceLT, Int.reduceLE, Int.reduceAdd, Int.reduceSub, Int.reduceMul, Int.reduceNeg, Int.reduceToNat, Nat.reduceEqDiff, Nat.reduceLT, Nat.reduceLeDiff, Nat.reduceMul, List.replicate, reduceCtorEq, TB, NB, MB, t0, t3, show ((i + 1 : Nat) : Int) < l.length by omega]
      refine code_draw [(0, 1), (0, 2), (0, 6), (0, 7), (0, 8), (0, 9), (0, 10), (1, 6), (1, 7), (1, 8), (1, 9), (1, 10), (2, 6), (2, 7), (2, 8), (2, 9), (2, 10), (3, 6), (3, 7), (3, 8), (3, 9), (3, 10), (4, 6), (4, 7), (4, 8), (4, 9), (4, 10), (5, 6), (5, 7), (5, 8), (5, 9), (5, 10), (6, 7)] (by decide +kernel) (by decide +kernel) ?_
      simp -dsimp (maxSteps := 4000000) (disch := first | omega | assumption | (simp only [FB, Nat.reduceAdd]; done) | (simp only [LB]; omega)) only [EB, ↓reduceIte, WB, Nat.reduceSub, Nat.reduceAdd, Int.reduceEq, Int.reduceNe, Int.reduceLT, Int.reduceLE, Int.reduceAdd, Int.reduceSub, Int.reduceMul, Int.reduceNeg, Int.reduceToNat, Nat.reduceEqDiff, Nat.reduceLT, Nat.reduceLeDiff, Nat.reduceMul, List.replicate, reduceCtorEq, RB, Nat.reduceEqDiff, TB, NB, MB, t0, t3, wrap64, show (((i + 1 : Nat) : Int) - 1).toNat = i by omega, Int.toNat_natCast, hlk', hn0, hkey, h2', show b < n + 1 by omega]
      rw [sortB_false fun h => h2 (h i hlt)]
  · simp -dsimp (maxSteps := 4000000) (disch := first | omega | assumption | (simp only [FB, Nat.reduceAdd]; done) | (simp only [LB]; omega)) only [EB, ↓reduceIte, WB, Nat.reduceSub, Nat.reduceAdd, Int.reduceEq, Int.reduceNe, Int.reduceLT, Int.reduceLE, Int.reduceAdd, Int.reduceSub, Int.reduceMul, Int.reduceNeg, Int.reduceToNat, Nat.reduceEqDiff, Nat.reduceLT, Nat.reduceLeDiff, Nat.reduceMul, List.replicate, reduceCtorEq, TB, NB, MB, t0, t3, show ¬ ((i + 1 : Nat) : Int) < l.length by omega]
    rw [sortB_true fun j hj => hok j hj (by omega)]
    exact ⟨(by first | trivial | rfl | omega), (by first | trivial | rfl | omega)⟩
end Go.Proofs.YtdgpniekpmoadaaAM
