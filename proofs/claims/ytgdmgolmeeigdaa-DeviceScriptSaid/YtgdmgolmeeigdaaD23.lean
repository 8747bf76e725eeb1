/- Chapter 3: DeviceCrash answers true. -/
import Derived.Test.YtgdmgolmeeigdaaD22
namespace Go.Proofs.YtgdmgolmeeigdaaAM
open Go Go.RowKit
set_option linter.unusedVariables false
set_option linter.unusedSimpArgs false
set_option maxRecDepth 10000
set_option maxHeartbeats 4000000

theorem und48 : Try.prog.underlying 48 = some (.array 3 25) := rfl
theorem und50 : Try.prog.underlying 50 = some (.array 3 49) := rfl
theorem size25 : typeSize Try.prog 25 = some 1 := rfl
theorem size49 : typeSize Try.prog 49 = some 1 := rfl
theorem agg25 : aggB Try.prog 25 = some false := rfl
theorem zero48 : zeroV Try.prog 48 = some (.agg #[.pointer none, .pointer none, .pointer none]) := rfl
theorem zero50 : zeroV Try.prog 50 = some (.agg #[.pointer none, .pointer none, .pointer none]) := rfl
theorem indexAddr_arr {E : Program} {ty e : TypeId} {len z : Nat} {p : Addr} {k : IntKind} {i : Int} (hu : E.underlying ty = some (.array len e)) (hz : typeSize E e = some z) (h : 0 ≤ i) (h2 : i < (len : Int)) : indexAddrA E ty (.pointer (some p)) (.int k i) = some (.pointer (some ⟨p.block, p.off + i.toNat * z, none⟩)) := by
  simp [indexAddrA, hu, hz, h, h2]
def D0 (im : List UInt8) : Dv := ⟨128, 20, im, im, [], -1, 0⟩
/-- Both devices, made. -/
theorem both_new (im : List UInt8) (him : im.length ≤ 1500) {h : List (Nat × Blk)} {n q q2 : Nat} (hq : q < n ∧ q2 < n ∧ q ≠ q2) : Both ((n + 1, .cells (refC 128 20 im (.slice none 0 0) im (-1) 0) true) :: (n, .cells (devC 128 20 im im (.slice none 0 0) (-1) 0) true) :: h) (n + 2) n q (fun _ => False) (n + 1) q2 (D0 im) (D0 im) := by
  refine ⟨⟨⟨.slice none 0 0, [], ?_, .inl ⟨rfl, rfl⟩, rfl, fun i fv o e1 e2 => by simp at e1⟩, by omega, fun h => h, fun h => h, ⟨by omega, by omega, fun j hj => hj.elim⟩, ⟨by simp [D0], by simp [D0]⟩, by simp [D0], by simp only [D0]; omega, by simp only [D0]; omega, fun o ho => by simp [D0] at ho⟩, ⟨⟨.slice none 0 0, look_self, .inl ⟨rfl, rfl⟩⟩, by omega, ⟨by omega, by omega⟩, ⟨by simp [D0], by simp [D0]⟩, by simp [D0], by simp only [D0]; omega, by simp only [D0]; omega, fun o ho => by simp [D0] at ho⟩, by omega, by omega, by omega, by omega, fun h => h, fun h => h⟩
  rw [look_miss (by omega), look_self]; rfl
theorem d0_ok (im : List UInt8) : (D0 im).Ok 0 := ⟨rfl, ⟨by simp [D0], by simp [D0]⟩, by simp [D0], by simp [D0]⟩
def bodyOf : Code → Code
  | .loop c => c
  | c => c
theorem seq_at {E : Program} {G : Gives} {C x y : Code} (hc : C = .seq x y) {fn ro t ds} {a : AW} {Q : ExitA → List Value → List Nat → AW → Prop} (h : WCode E G fn ro (.seq x y) t ds a Q) : WCode E G fn ro C t ds a Q := by
  subst hc; exact h
theorem iter6 (im : List UInt8) (c1 : im.length ≤ 1500) (l : List Act) (hl : l.length ≤ 30) (i : Nat) (hi : i < 3) {m A n bs : Nat} {p : Option Addr} {c : Nat} (q q2 : Nat) {h : List (Nat × Blk)} {d : List Nat} (hv : SliceR ActR 5 l h m [.slice p l.length c]) (hmq : m ≤ q ∧ m ≤ q2 ∧ q ≠ q2 ∧ q < A ∧ q2 < A ∧ A + 1 < n ∧ m ≤ A) (hbs : bs ≤ A)
    (xs ys : List Value) (hx : xs.length = 3) (hy : ys.length = 3) (hA : look A h = some (.cells xs true)) (hA1 : look (A + 1) h = some (.cells ys true))
    (e : Nat → Value) (e0 : e 0 = .string (mkStr im)) (e1 : e 1 = .slice p l.length c) (e7 : e 7 = .pointer (some ⟨A, 0, none⟩)) (e8 : e 8 = .pointer (some ⟨A + 1, 0, none⟩)) (e9 : e 9 = .int .i64 i)
    (Q : ExitA → List Value → List Nat → AW → Prop) (hQ : ∀ e' n' h' q' S' d', e' 0 = e 0 → e' 1 = e 1 → e' 2 = e 2 → e' 7 = e 7 → e' 8 = e 8 → e' 9 = .int .i64 ((i + 1 : Nat) : Int) → n ≤ n' → DevS h' n' n q' S' ((D0 im).run l) → (q' = q ∨ n ≤ q') → (∀ j, S' j → n ≤ j) →
      look A h' = some (.cells (xs.take i ++ .pointer (some ⟨n, 0, none⟩) :: xs.drop (i + 1)) true) → look (A + 1) h' = some (.cells (ys.take i ++ .pointer (some ⟨n + 1, 0, none⟩) :: ys.drop (i + 1)) true) → (∀ j, j < n → j ≠ A → j ≠ A + 1 → j ≠ q → j ≠ q2 → look j h' = look j h) → Q .normal (TT 157 e') [] ⟨n', h', bs, d'⟩) :
    WCode Try.prog GV 6 none (bodyOf (loopN Try.f6 0)) (TT 157 e) [] ⟨n, h, bs, d⟩ Q := by
  refine seq_at rfl ?_
  have hn := new11 im (by omega) 20 (by omega) (by omega)
  have hn2 := new26 im (by omega) 20 (by omega) (by omega)
  simp -dsimp (maxSteps := 4000000) (disch := first | omega | assumption | (simp only [FB, Nat.reduceAdd]; done) | (simp only [LB]; omega)) only [EB, ↓reduceIte, WB, Nat.reduceSub, Nat.reduceAdd, Int.reduceEq, Int.reduceNe, Int.reduceLT, Int.reduceLE, Int.reduceAdd, Int.reduceSub, Int.reduceMul, Int.reduceNeg, Int.reduceToNat, Nat.reduceEqDiff, Nat.reduceLT, Nat.reduceLeDiff, Nat.reduceMul, List.replicate, reduceCtorEq, op_len und9 rfl, e0, e1, e7, e8, e9, show ((i : Int) < 3) by omega, hn, hn2]
  have hB := both_new im c1 (h := h) (n := n) (q := q) (q2 := q2) (by omega)
  refine acts6 l hl m _ (slice_keeps act_keeps _ _ _ _ _ _ hv (Nat.le_refl _) fun j hj => by rw [look_miss (by omega), look_miss (by omega)]) hB (d0_ok im) (by omega) _ (by simp only [ups_at, ↓reduceIte, Nat.reduceEqDiff]; exact e1) (by simp only [ups_at, ↓reduceIte, Nat.reduceEqDiff]) (by simp only [ups_at, ↓reduceIte, Nat.reduceEqDiff]) (by simp only [ups_at, ↓reduceIte, Nat.reduceEqDiff]) _ fun e2 n1 h1 q1 S1 q3 d1 ge hW => ?_
  have g0 := ge 0 (by omega)
  have g1 := ge 1 (by omega)
  have g2 := ge 2 (by omega)
  have g7 := ge 7 (by omega)
  have g8 := ge 8 (by omega)
  have g9 := ge 9 (by omega)
  have g10 := ge 10 (by omega)
  have g12 := ge 12 (by omega)
  simp only [ups_at, ↓reduceIte, Nat.reduceEqDiff] at g0 g1 g2 g7 g8 g9 g10 g12
  have f7 := g7.trans e7
  have f8 := g8.trans e8
  have f9 := g9.trans e9
  have hlo : ∀ j, j < n → j ≠ q → j ≠ q2 → look j h1 = look j h := fun j j1 j2 j3 => by rw [hW.out j (by omega) (by omega) j2 (by omega) j3, look_miss (by omega), look_miss (by omega)]
  have hA' : look A h1 = some (.cells xs true) := by rw [hlo A (by omega) (by omega) (by omega)]; exact hA
  have hA1' : look (A + 1) h1 = some (.cells ys true) := by rw [hlo (A + 1) (by omega) (by omega) (by omega)]; exact hA1
  simp -dsimp (maxSteps := 4000000) (disch := first | omega | assumption | (simp only [FB, Nat.reduceAdd]; done) | (simp only [LB]; omega)) only [EB, ↓reduceIte, WB, Nat.reduceSub, Nat.reduceAdd, Int.reduceEq, Int.reduceNe, Int.reduceLT, Int.reduceLE, Int.reduceAdd, Int.reduceSub, Int.reduceMul, Int.reduceNeg, Int.reduceToNat, Nat.reduceEqDiff, Nat.reduceLT, Nat.reduceLeDiff, Nat.reduceMul, List.replicate, reduceCtorEq, op_len und9 rfl, f7, f8, f9, g10, g12, indexAddr_arr und48 size25, indexAddr_arr und50 size49, storeVar_eq size25, storeVar_eq size49, hA', hA1', write_soil, wrap64]
  have hl := hW.le
  have hl1 := hW.both.dev.lt
  refine hQ _ n1 _ q1 S1 d1 ?_ ?_ ?_ ?_ ?_ ?_ (by omega) (hW.both.dev.keep (Nat.le_refl _) ?_ ?_ fun j hj => ?_) ?_ (fun j hj => ?_) ?_ ?_ fun j j1 j2 j3 j4 j5 => ?_
  · simp only [ups_at, ↓reduceIte, Nat.reduceEqDiff]; exact g0
  · simp only [ups_at, ↓reduceIte, Nat.reduceEqDiff]; exact g1
  · simp only [ups_at, ↓reduceIte, Nat.reduceEqDiff]; exact g2
  · simp only [ups_at, ↓reduceIte, Nat.reduceEqDiff]; exact g7
  · simp only [ups_at, ↓reduceIte, Nat.reduceEqDiff]; exact g8
  · simp only [ups_at, ↓reduceIte, Nat.reduceEqDiff]; rfl
  · rw [look_wput_ne (by omega), look_wput_ne (by omega)]
  · have : q1 = q ∨ n + 2 ≤ q1 := hW.fq
    rw [look_wput_ne (by omega), look_wput_ne (by omega)]
  · have : n + 2 ≤ j := by rcases hW.fS j hj with h | h; exact h.elim; exact h
    rw [look_wput_ne (by omega), look_wput_ne (by omega)]
  · have := hW.fq; omega
  · rcases hW.fS j hj with h | h
    · exact h.elim
    · omega
  · rw [look_wput_ne (by omega), look_wput_self, hA']; rfl
  · rw [look_wput_self, look_wput_ne (by omega), hA1']; rfl
  · rw [look_wput_ne (by omega), look_wput_ne (by omega), hlo j j1 j4 j5]
theorem After.dev {h' h'' : List (Nat × Blk)} {n' n'' b q' q'' bs : Nat} {d d' : List Nat} {S' S'' : Nat → Prop} {D D' : Dv} (ha : After h' n' bs d b q' S' D D' h'' n'' d' q'' S'') (hd : DevS h' n' b q' S' D) : DevS h'' n'' b q'' S'' D' ∧ (q'' = q' ∨ n' ≤ q'') ∧ (∀ j, S'' j → S' j ∨ n' ≤ j) := by
  cases ha with
  | same e => exact ⟨e ▸ hd, .inl rfl, fun j hj => .inl hj⟩
  | wrote g1 g2 g3 g4 g5 g6 => exact ⟨g5, g2, g3⟩
theorem crashI_none : ∀ (ops : List DOp) (i : Nat) (im : List UInt8), crashI [] i ops im = im
  | [], _, _ => rfl
  | o :: ops, i, im => by rw [crashI, if_neg (by simp), crashI_none ops]
theorem crashI_all {keep : List Int} : ∀ (ops : List DOp) (i : Nat) (im : List UInt8), (∀ j, i ≤ j → j < i + ops.length → (j : Int) ∈ keep) → crashI keep i ops im = ops.foldl (fun im o => o.act im) im
  | [], _, _, _ => rfl
  | o :: ops, i, im, h => by
    rw [crashI, if_pos (h i (by omega) (by simp)), crashI_all ops (i + 1) _ (fun j h1 h2 => h j (by omega) (by simp only [List.length_cons]; omega))]
    rfl
/-- So many numbers, downwards. -/
def downL (P k : Nat) : List Int := (List.range k).map fun i => ((P - 1 - i : Nat) : Int)
theorem downL_succ (P k : Nat) : downL P (k + 1) = downL P k ++ [((P - 1 - k : Nat) : Int)] := by unfold downL; rw [List.range_succ, List.map_append]; rfl
theorem downL_all (P j : Nat) (h : j < P) : (j : Int) ∈ downL P P := by
  unfold downL
  rw [List.mem_map]
  exact ⟨P - 1 - j, List.mem_range.2 (by omega), by congr 1; omega⟩
theorem downL_len (P k : Nat) : (downL P k).length = k := by simp [downL]
theorem encI_len (x : Int) : (encI x).length = 1 := rfl
theorem encI_one (x : Int) : (encI x).all Value.oneCell' = true := rfl
theorem sl22 : slOk Try.prog 22 1 = true := by decide +kernel
section
variable {H : Type} {enc0 : TypeId × Value → H} {W : World} {held : Bool}
theorem opens_act : Opens enc0 Try.prog W held 54 ActR := by
  refine opens_map (fun x : Int × Int × ByteArray × List Int × Int × Unit => ⟨x.1, x.2.1, strOf x.2.2.1, x.2.2.2.1, x.2.2.2.2.1⟩) (opens_struct (R := PairR (FlatR (fun x : Int => [.int .i64 x]) fun x => (Lit.int .i64 x).wf = true) (PairR (FlatR (fun x : Int => [.int .u32 x]) fun x => (Lit.int .u32 x).wf = true) (PairR (FlatR (fun x : ByteArray => [.string x]) fun x => x.size ≤ maxLen) (PairR (SliceB (Try.prog.bytesOf 3) (FlatR encI fun x => (Lit.int .i64 x).wf = true) 1) (PairR (FlatR (fun x : Int => [.int .i64 x]) fun x => (Lit.int .i64 x).wf = true) UnitR))))) Try.underlying54 (by kernel_rfl) (by kernel_rfl) ?_) ?_
  · exact opensL_cons flat_keeps (opens_int und3) (opensL_cons flat_keeps (opens_int und31) (opensL_cons flat_keeps (opens_str und9) (opensL_cons (sliceB_keeps flat_keeps) (opens_slice und22' (by kernel_rfl) (by omega) flat_keeps (opens_int und3)) (opensL_cons flat_keeps (opens_int und3) opensL_nil))))
  · rintro ⟨x1, x2, x3, x4, x5, u⟩ h n ac ⟨l1, r1, rfl, ⟨rfl, g1⟩, l2, r2, rfl, ⟨rfl, g2⟩, l3, r3, rfl, ⟨rfl, g3⟩, l4, r4, rfl, g4, l5, r5, rfl, ⟨rfl, g5⟩, rfl⟩
    simp only at g1 g2 g3 g4 g5
    have b1 := bd_i64 g1
    have b2 := bd_u32 g2
    have b5 := bd_i64 g5
    obtain ⟨g4, g6⟩ := g4
    have hb8 : Try.prog.bytesOf 3 = 8 := by decide +kernel
    have hrb := reachBytes_lt
    have h7 : x4.length ≤ 17592186043904 := by
      rw [hb8] at g6
      have : reachBytes = 0x7ffffffff000 := rfl
      omega
    rcases id g4 with ⟨rfl, hx⟩ | ⟨q, acs, rfl, _⟩
    · exact ⟨_, rfl, (SliceR.listV g4).1, b1.1, b2, b5.2, h7⟩
    · exact ⟨_, rfl, (SliceR.listV g4).1, b1.1, b2, b5.2, h7⟩
end
theorem law6 (im : List UInt8) (him : im.length ≤ 9223372036854775807) (v u : Value) (l : List Act) (hll : l.length ≤ 140737488355328) (ks : List Int) (hks : ∀ x ∈ ks, -9223372036854775808 ≤ x ∧ x ≤ 9223372036854775807) (a : AW) (m : Nat) (ham : a.next = m + 6) (hv : SliceR ActR 5 l a.heap m [v]) (hu : ListV encI a.heap m u ks) :
    WCall Try.prog GV 6 [.string (mkStr im), v, u] a fun v _ => v = .bool true := by
  rw [call_env Try.func6 rfl Try.ntmps6 rfl rfl (by simp)]
  have hv' : SliceR ActR 5 l a.heap a.next [v] := slice_keeps act_keeps _ _ _ _ _ _ hv (by omega) fun _ _ => rfl
  obtain ⟨p, c, rfl⟩ := hv.len
  obtain ⟨pu, cu, rfl⟩ := hu.len
  have hlt := fun K => light25 im him l hll (.slice p l.length c) ⟨a.next, a.heap, a.next, []⟩ hv' K
  cases hlb : lightB im l with
  | false =>
    rw [hlb] at hlt
    simp -dsimp (maxSteps := 4000000) (disch := first | omega | assumption | (simp only [FB, Nat.reduceAdd]; done) | (simp only [LB]; omega)) only [EB, ↓reduceIte, WB, Nat.reduceSub, Nat.reduceAdd, Int.reduceEq, Int.reduceNe, Int.reduceLT, Int.reduceLE, Int.reduceAdd, Int.reduceSub, Int.reduceMul, Int.reduceNeg, Int.reduceToNat, Nat.reduceEqDiff, Nat.reduceLT, Nat.reduceLeDiff, Nat.reduceMul, List.replicate, reduceCtorEq, op_len und9 rfl, lives9, hlt]
  | true =>
    rw [hlb] at hlt
    by_cases hl2 : (100 : Int) < ks.length
    · simp -dsimp (maxSteps := 4000000) (disch := first | omega | assumption | (simp only [FB, Nat.reduceAdd]; done) | (simp only [LB]; omega)) only [EB, ↓reduceIte, WB, Nat.reduceSub, Nat.reduceAdd, Int.reduceEq, Int.reduceNe, Int.reduceLT, Int.reduceLE, Int.reduceAdd, Int.reduceSub, Int.reduceMul, Int.reduceNeg, Int.reduceToNat, Nat.reduceEqDiff, Nat.reduceLT, Nat.reduceLeDiff, Nat.reduceMul, List.replicate, reduceCtorEq, op_len und9 rfl, lives9, hlt, op_len und22 rfl, hl2]
    · simp only [lightB, Bool.and_eq_true, decide_eq_true_eq] at hlb
      obtain ⟨c1, c2, c3⟩ := hlb
      have hn := new11 im (by omega) 20 (by omega) (by omega)
      have hn2 := new26 im (by omega) 20 (by omega) (by omega)
      simp -dsimp (maxSteps := 4000000) (disch := first | omega | assumption | (simp only [FB, Nat.reduceAdd]; done) | (simp only [LB]; omega)) only [EB, ↓reduceIte, WB, Nat.reduceSub, Nat.reduceAdd, Int.reduceEq, Int.reduceNe, Int.reduceLT, Int.reduceLE, Int.reduceAdd, Int.reduceSub, Int.reduceMul, Int.reduceNeg, Int.reduceToNat, Nat.reduceEqDiff, Nat.reduceLT, Nat.reduceLeDiff, Nat.reduceMul, List.replicate, reduceCtorEq, op_len und9 rfl, lives9, hlt, op_len und22 rfl, hl2, zero48, zero50]
      have hA0 : look a.next ((a.next + 1, Blk.cells [Value.pointer none, Value.pointer none, Value.pointer none] true) :: (a.next, Blk.cells [Value.pointer none, Value.pointer none, Value.pointer none] true) :: a.heap) = some (.cells [Value.pointer none, Value.pointer none, Value.pointer none] true) := by rw [look_miss (by omega), look_self]
      generalize hh0 : (a.next + 1, Blk.cells [Value.pointer none, Value.pointer none, Value.pointer none] true) :: (a.next, Blk.cells [Value.pointer none, Value.pointer none, Value.pointer none] true) :: a.heap = h0 at hA0 ⊢
      have hA1 : look (a.next + 1) h0 = some (.cells [Value.pointer none, Value.pointer none, Value.pointer none] true) := by rw [← hh0, look_self]
      have hv0 : SliceR ActR 5 l h0 m [.slice p l.length c] := slice_keeps act_keeps _ _ _ _ _ _ hv (Nat.le_refl _) fun j hj => by rw [← hh0, look_miss (by omega), look_miss (by omega)]
      have hu0 : ListV encI h0 m (.slice pu ks.length cu) ks := hu.keep (Nat.le_refl _) fun j hj => by rw [← hh0, look_miss (by omega), look_miss (by omega)]
      rw [code_loop]
      refine iter6 im (by omega) l c2 0 (by omega) (A := a.next) m (m + 1) hv0 (by omega) (Nat.le_refl _) _ _ rfl rfl hA0 hA1 _ (by simp only [ups_at, ↓reduceIte, Nat.reduceEqDiff]; rfl) (by simp only [ups_at, ↓reduceIte, Nat.reduceEqDiff]; rfl) (by simp only [ups_at, ↓reduceIte, Nat.reduceEqDiff]) (by simp only [ups_at, ↓reduceIte, Nat.reduceEqDiff]) (by simp only [ups_at, ↓reduceIte, Nat.reduceEqDiff]; rfl) _ fun e1 N1 h1 q1 S1 d1 x0 x1 x2 x7 x8 x9 hN1 hd1 hq1 hS1 hA01 hA11 ho1 => ?_
      simp only [ups_at, ↓reduceIte, Nat.reduceEqDiff] at x0 x1 x2 x7 x8
      simp only [List.take_zero, List.nil_append, Nat.zero_add, List.drop_succ_cons, List.drop_zero] at hA01 hA11 x9
      have hlt1 := hd1.lt
      have hlo1 : ∀ j, j < m → look j h1 = look j h0 := fun j hj => ho1 j (by omega) (by omega) (by omega) (by omega) (by omega)
      have hv1 : SliceR ActR 5 l h1 m [.slice p l.length c] := slice_keeps act_keeps _ _ _ _ _ _ hv0 (Nat.le_refl _) hlo1
      rw [onNormal_normal, code_loop]
      refine iter6 im (by omega) l c2 1 (by omega) (A := a.next) (m + 2) (m + 3) hv1 (by omega) (Nat.le_refl _) _ _ rfl rfl hA01 hA11 _ x0 x1 x7 x8 x9 _ fun e2 N2 h2 q2 S2 d2 y0 y1 y2 y7 y8 y9 hN2 hd2 hq2 hS2 hA02 hA12 ho2 => ?_
      rw [x0] at y0; rw [x1] at y1; rw [x2] at y2; rw [x7] at y7; rw [x8] at y8
      simp only [List.take_succ_cons, List.take_zero, List.cons_append, List.nil_append, Nat.reduceAdd, List.drop_succ_cons, List.drop_zero] at hA02 hA12 y9
      have hlt2 := hd2.lt
      have hlo2 : ∀ j, j < m → look j h2 = look j h1 := fun j hj => ho2 j (by omega) (by omega) (by omega) (by omega) (by omega)
      have hv2 : SliceR ActR 5 l h2 m [.slice p l.length c] := slice_keeps act_keeps _ _ _ _ _ _ hv1 (Nat.le_refl _) hlo2
      rw [onNormal_normal, code_loop]
      refine iter6 im (by omega) l c2 2 (by omega) (A := a.next) (m + 4) (m + 5) hv2 (by omega) (Nat.le_refl _) _ _ rfl rfl hA02 hA12 _ y0 y1 y7 y8 y9 _ fun e3 N3 h3 q3 S3 d3 z0 z1 z2 z7 z8 z9 hN3 hd3 hq3 hS3 hA03 hA13 ho3 => ?_
      rw [y0] at z0; rw [y1] at z1; rw [y2] at z2; rw [y7] at z7; rw [y8] at z8
      simp only [List.take_succ_cons, List.take_zero, List.cons_append, List.nil_append, Nat.reduceAdd, List.drop_succ_cons, List.drop_zero] at hA03 hA13 z9
      have hlt3 := hd3.lt
      have hlo3 : ∀ j, j < m → look j h3 = look j h2 := fun j hj => ho3 j (by omega) (by omega) (by omega) (by omega) (by omega)
      rw [onNormal_normal, code_loop]
      obtain ⟨D, hD⟩ : ∃ D, D = (D0 im).run l := ⟨_, rfl⟩
      rw [← hD] at hd1 hd2 hd3
      have hok := run_ok (d0_ok im) l
      have htold := run_told (D := D0 im) rfl l
      rw [← hD] at hok htold
      rw [Nat.zero_add] at hok
      -- the first two, as they stand in the end
      have hd2' : DevS h3 N3 N1 q2 S2 D := hd2.keep hN3 (ho3 _ (by omega) (by omega) (by omega) (by omega) (by omega)) (ho3 _ (by omega) (by omega) (by omega) (by omega) (by omega)) fun j hj => by have := hS2 j hj; have := hlt2.2.2 j hj; exact ho3 j (by omega) (by omega) (by omega) (by omega) (by omega)
      have hd1' : DevS h3 N3 (a.next + 2) q1 S1 D := (hd1.keep hN2 (ho2 _ (by omega) (by omega) (by omega) (by omega) (by omega)) (ho2 _ (by omega) (by omega) (by omega) (by omega) (by omega)) fun j hj => by have := hS1 j hj; have := hlt1.2.2 j hj; exact ho2 j (by omega) (by omega) (by omega) (by omega) (by omega)).keep hN3 (ho3 _ (by omega) (by omega) (by omega) (by omega) (by omega)) (ho3 _ (by omega) (by omega) (by omega) (by omega) (by omega)) fun j hj => by have := hS1 j hj; have := hlt1.2.2 j hj; exact ho3 j (by omega) (by omega) (by omega) (by omega) (by omega)
      have hu3 : ListV encI h3 m (.slice pu ks.length cu) ks := hu0.keep (Nat.le_refl _) fun j hj => by rw [hlo3 j hj, hlo2 j hj, hlo1 j hj]
      have hS1' : ∀ j, S1 j → a.next + 2 ≤ j ∧ j < N1 := fun j hj => ⟨hS1 j hj, hlt1.2.2 j hj⟩
      have hS2' : ∀ j, S2 j → N1 ≤ j ∧ j < N2 := fun j hj => ⟨hS2 j hj, hlt2.2.2 j hj⟩
      have hS3' : ∀ j, S3 j → N2 ≤ j ∧ j < N3 := fun j hj => ⟨hS3 j hj, hlt3.2.2 j hj⟩
      clear ho1 ho2 ho3 hd1 hd2 hS1 hS2 hS3 hA01 hA02 hA11 hA12
      obtain ⟨pv1, fs1, hb1, hp1, hfl1, -⟩ := hd1'.st
      obtain ⟨pv2, fs2, hb2, hp2, hfl2, -⟩ := hd2'.st
      have z9' : e3 9 = .int .i64 3 := z9
      simp -dsimp (maxSteps := 4000000) (disch := first | omega | assumption | (simp only [FB, Nat.reduceAdd]; done) | (simp only [LB]; omega)) only [EB, ↓reduceIte, WB, Nat.reduceSub, Nat.reduceAdd, Int.reduceEq, Int.reduceNe, Int.reduceLT, Int.reduceLE, Int.reduceAdd, Int.reduceSub, Int.reduceMul, Int.reduceNeg, Int.reduceToNat, Nat.reduceEqDiff, Nat.reduceLT, Nat.reduceLeDiff, Nat.reduceMul, List.replicate, reduceCtorEq, op_len und9 rfl, z0, z1, z2, z7, z8, z9']
      refine code_draw [(0, 3), (0, 4), (1, 3), (1, 4), (2, 3), (2, 4)] (by decide +kernel) (by decide +kernel) ?_
      simp -dsimp (maxSteps := 4000000) (disch := first | omega | assumption | (simp only [FB, Nat.reduceAdd]; done) | (simp only [LB]; omega)) only [EB, ↓reduceIte, WB, Nat.reduceSub, Nat.reduceAdd, Int.reduceEq, Int.reduceNe, Int.reduceLT, Int.reduceLE, Int.reduceAdd, Int.reduceSub, Int.reduceMul, Int.reduceNeg, Int.reduceToNat, Nat.reduceEqDiff, Nat.reduceLT, Nat.reduceLeDiff, Nat.reduceMul, List.replicate, reduceCtorEq, RB, Nat.reduceEqDiff, op_len und9 rfl, z0, z1, z2, z7, z8, z9, indexAddr_arr und48 size25, load_one agg25, hA03, durable19 hb1, image18 hb1]
      obtain ⟨pp2, cc2, rfl⟩ : ∃ pp cc, pv2 = .slice pp fs2.length cc := by
        rcases hp2 with ⟨rfl, rfl⟩ | ⟨rfl, _⟩
        · exact ⟨none, 0, rfl⟩
        · exact ⟨_, _, rfl⟩
      obtain ⟨P, hP⟩ : ∃ P, P = D.ops.length := ⟨_, rfl⟩
      have hP30 : P ≤ 30 := by have := hok.l; omega
      simp -dsimp (maxSteps := 4000000) (disch := first | omega | assumption | (simp only [FB, Nat.reduceAdd]; done) | (simp only [LB]; omega)) only [EB, ↓reduceIte, WB, Nat.reduceSub, Nat.reduceAdd, Int.reduceEq, Int.reduceNe, Int.reduceLT, Int.reduceLE, Int.reduceAdd, Int.reduceSub, Int.reduceMul, Int.reduceNeg, Int.reduceToNat, Nat.reduceEqDiff, Nat.reduceLT, Nat.reduceLeDiff, Nat.reduceMul, List.replicate, reduceCtorEq, op_len und9 rfl, z0, z1, z2, z7, z8, z9', pending21 hb2]
      rw [hfl2, ← hP]
      refine loop_inv (fun k t w => ∃ i n4 q4 : Nat, ∃ h4 d4 v4, ∃ e : Nat → Value, k = i ∧ i ≤ P ∧ w = ⟨n4, h4, a.next, d4⟩ ∧ t = TT 157 e ∧ N3 < n4 ∧ q4 < n4 ∧ N3 ≤ q4 ∧ (∀ j, j < N3 → look j h4 = look j h3) ∧ OwnL encI 2 h4 q4 v4 (downL P (P - i)) ∧ e 2 = .slice pu ks.length cu ∧ e 7 = .pointer (some ⟨a.next, 0, none⟩) ∧ e 15 = .string (mkStr D.du) ∧ e 16 = .string (mkStr D.im) ∧ e 17 = v4 ∧ e 18 = .int .i64 i) ⟨P, N3 + 1, N3, h3, d3, .slice none 0 0, _, rfl, by omega, rfl, rfl, by omega, by omega, by omega, fun _ _ => rfl, .inl ⟨rfl, by rw [Nat.sub_self]; rfl⟩, by simp only [ups_at, ↓reduceIte, Nat.reduceEqDiff]; exact ⟨z2, z7, (by first | trivial | rfl | omega), (by first | trivial | rfl | omega), (by first | trivial | rfl | omega), (by first | trivial | rfl | omega)⟩⟩ ?_
      rintro k t w ⟨i, n4, q4, h4, d4, v4, e, rfl, hi, rfl, rfl, hn4, hq4, hq4', ho4, hown, w2, w7, w15, w16, w17, w18⟩
      by_cases hi0 : 0 < k
      · simp -dsimp (maxSteps := 4000000) (disch := first | omega | assumption | (simp only [FB, Nat.reduceAdd]; done) | (simp only [LB]; omega)) only [EB, ↓reduceIte, WB, Nat.reduceSub, Nat.reduceAdd, Int.reduceEq, Int.reduceNe, Int.reduceLT, Int.reduceLE, Int.reduceAdd, Int.reduceSub, Int.reduceMul, Int.reduceNeg, Int.reduceToNat, Nat.reduceEqDiff, Nat.reduceLT, Nat.reduceLeDiff, Nat.reduceMul, List.replicate, reduceCtorEq, op_len und9 rfl, w2, w7, w15, w16, w17, w18, show (0 : Int) < (k : Int) by omega, wrap64, buildSl1 sl22]
        have hk1 : ((k : Int) - 1) = ((k - 1 : Nat) : Int) := by omega
        rw [hk1]
        have hdl := downL_len P (P - k)
        obtain ⟨q5, h5, d5, r1, r2, r3, r4, r5, -⟩ := own_app (n := n4 + 1) (bs := a.next) (d := d4) (m := n4) (h := (n4, Blk.cells [Value.int IntKind.i64 ((k - 1 : Nat) : Int)] true) :: h4) app22 rfl (by omega) encI_len encI_one (x := ((k - 1 : Nat) : Int)) (hown.keep (look_miss (by omega))) (by omega) (by omega) (by omega) look_self (by omega)
        rw [r1]
        simp -dsimp (maxSteps := 4000000) (disch := first | omega | assumption | (simp only [FB, Nat.reduceAdd]; done) | (simp only [LB]; omega)) only [EB, ↓reduceIte, WB, Nat.reduceSub, Nat.reduceAdd, Int.reduceEq, Int.reduceNe, Int.reduceLT, Int.reduceLE, Int.reduceAdd, Int.reduceSub, Int.reduceMul, Int.reduceNeg, Int.reduceToNat, Nat.reduceEqDiff, Nat.reduceLT, Nat.reduceLeDiff, Nat.reduceMul, List.replicate, reduceCtorEq, op_len und9 rfl, w18, wrap64]
        have hst : downL P (P - k) ++ [((k - 1 : Nat) : Int)] = downL P (P - (k - 1)) := by
          rw [show P - (k - 1) = (P - k) + 1 by omega, downL_succ, show P - 1 - (P - k) = k - 1 by omega]
        rw [hst] at r4 ⊢
        refine ⟨trivial, k - 1, by omega, k - 1, n4 + 2, q5, h5, d5, _, _, rfl, by omega, rfl, rfl, by omega, by omega, by omega, fun j hj => ?_, .inr ⟨rfl, ?_, r4⟩, ?_⟩
        · rw [r5 j (by omega) (by omega), look_miss (by omega), ho4 j hj]
        · intro e0
          have := downL_len P (P - (k - 1))
          rw [e0] at this
          simp at this
          omega
        · simp only [ups_at, ↓reduceIte, Nat.reduceEqDiff]
          exact ⟨w2, w7, w15, w16, (by first | trivial | rfl | omega), by first | trivial | rfl | rw [hk1]⟩
      · have hk0 : k = 0 := by omega
        subst hk0
        rw [Nat.sub_zero] at hown
        have w18' : e 18 = .int .i64 0 := w18
        have hA04 : look a.next h4 = _ := (ho4 a.next (by omega)).trans hA03
        have k1 : DevS h4 n4 (a.next + 2) q1 S1 D := hd1'.keep (by omega) (ho4 _ (by omega)) (ho4 _ (by omega)) fun j hj => ho4 j (by have := hS1' j hj; omega)
        have k2 : DevS h4 n4 N1 q2 S2 D := hd2'.keep (by omega) (ho4 _ (by omega)) (ho4 _ (by omega)) fun j hj => ho4 j (by have := hS2' j hj; omega)
        have k3 : DevS h4 n4 N2 q3 S3 D := hd3.keep (by omega) (ho4 _ (by omega)) (ho4 _ (by omega)) fun j hj => ho4 j (by have := hS3' j hj; omega)
        have hu4 : ListV encI h4 m (.slice pu ks.length cu) ks := hu3.keep (Nat.le_refl _) fun j hj => ho4 j (by omega)
        simp -dsimp (maxSteps := 4000000) (disch := first | omega | assumption | (simp only [FB, Nat.reduceAdd]; done) | (simp only [LB]; omega)) only [EB, ↓reduceIte, WB, Nat.reduceSub, Nat.reduceAdd, Int.reduceEq, Int.reduceNe, Int.reduceLT, Int.reduceLE, Int.reduceAdd, Int.reduceSub, Int.reduceMul, Int.reduceNeg, Int.reduceToNat, Nat.reduceEqDiff, Nat.reduceLT, Nat.reduceLeDiff, Nat.reduceMul, List.replicate, reduceCtorEq, op_len und9 rfl, w2, w7, w15, w16, w17, w18', indexAddr_arr und48 size25, load_one agg25, hA04]
        refine crash_all (k := l.length) hok (by omega) [] (by simp) _ (.inl ⟨rfl, rfl⟩) k1 fun n5 h5 d5 q5 S5 g1 => ?_
        have hA05 : look a.next h5 = _ := (g1.look (by omega) (by omega) (by omega)).trans hA04
        have k2a : DevS h5 n5 N1 q2 S2 D := k2.keep g1.le (g1.look (by omega) (by omega) (by omega)) (g1.look (by omega) (by omega) (by omega)) fun j hj => by have := hS2' j hj; exact g1.look (by omega) (by omega) (by omega)
        have k3a : DevS h5 n5 N2 q3 S3 D := k3.keep g1.le (g1.look (by omega) (by omega) (by omega)) (g1.look (by omega) (by omega) (by omega)) fun j hj => by have := hS3' j hj; exact g1.look (by omega) (by omega) (by omega)
        have hu5 : ListV encI h5 m (.slice pu ks.length cu) ks := hu4.keep (Nat.le_refl _) fun j hj => g1.look (by omega) (by omega) (by omega)
        have hown5 : ListV encI h5 n5 v4 (downL P P) := (hown.keep (g1.look (by omega) (by omega) (by omega))).listV (by have := g1.le; omega)
        simp -dsimp (maxSteps := 4000000) (disch := first | omega | assumption | (simp only [FB, Nat.reduceAdd]; done) | (simp only [LB]; omega)) only [EB, ↓reduceIte, WB, Nat.reduceSub, Nat.reduceAdd, Int.reduceEq, Int.reduceNe, Int.reduceLT, Int.reduceLE, Int.reduceAdd, Int.reduceSub, Int.reduceMul, Int.reduceNeg, Int.reduceToNat, Nat.reduceEqDiff, Nat.reduceLT, Nat.reduceLeDiff, Nat.reduceMul, List.replicate, reduceCtorEq, op_len und9 rfl, w2, w7, w15, w16, w17, w18', indexAddr_arr und48 size25, load_one agg25, hA05]
        refine crash_all (k := l.length) hok (by omega) (downL P P) (by rw [downL_len]; omega) _ hown5 k2a fun n6 h6 d6 q6 S6 g2 => ?_
        have l5 := g1.le
        have l6 := g2.le
        have hA06 : look a.next h6 = _ := (g2.look (by omega) (by omega) (by omega)).trans hA05
        obtain ⟨t1, t1q, t1S⟩ := g1.dev k1
        obtain ⟨t2, t2q, t2S⟩ := g2.dev k2a
        have b1 : ∀ j, S5 j → (a.next + 2 ≤ j ∧ j < N1) ∨ n4 ≤ j := fun j hj => by
          rcases t1S j hj with h | h
          · exact .inl (hS1' j h)
          · exact .inr h
        have b2 : ∀ j, S6 j → (N1 ≤ j ∧ j < N2) ∨ n5 ≤ j := fun j hj => by
          rcases t2S j hj with h | h
          · exact .inl (hS2' j h)
          · exact .inr h
        have lt5 := t1.lt
        have lt6 := t2.lt
        have t1a : DevS h6 n6 (a.next + 2) q5 S5 (D.crash []) := t1.keep l6 (g2.look (by omega) (by omega) (by omega)) (g2.look (by omega) (by omega) (by omega)) fun j hj => by have := b1 j hj; have := lt5.2.2 j hj; exact g2.look (by omega) (by omega) (by omega)
        have k3b : DevS h6 n6 N2 q3 S3 D := k3a.keep l6 (g2.look (by omega) (by omega) (by omega)) (g2.look (by omega) (by omega) (by omega)) fun j hj => by have := hS3' j hj; exact g2.look (by omega) (by omega) (by omega)
        have hu6 : ListV encI h6 m (.slice pu ks.length cu) ks := hu5.keep (Nat.le_refl _) fun j hj => g2.look (by omega) (by omega) (by omega)
        simp -dsimp (maxSteps := 4000000) (disch := first | omega | assumption | (simp only [FB, Nat.reduceAdd]; done) | (simp only [LB]; omega)) only [EB, ↓reduceIte, WB, Nat.reduceSub, Nat.reduceAdd, Int.reduceEq, Int.reduceNe, Int.reduceLT, Int.reduceLE, Int.reduceAdd, Int.reduceSub, Int.reduceMul, Int.reduceNeg, Int.reduceToNat, Nat.reduceEqDiff, Nat.reduceLT, Nat.reduceLeDiff, Nat.reduceMul, List.replicate, reduceCtorEq, op_len und9 rfl, w2, w7, w15, w16, w17, w18', indexAddr_arr und48 size25, load_one agg25, hA06]
        refine fuse_all (-1) (by omega) k3b fun n7 h7 d7 q7 S7 g3 => ?_
        have hA07 : look a.next h7 = _ := (g3.look (by omega) (by omega) (by omega)).trans hA06
        obtain ⟨t3, t3q, t3S⟩ := g3.dev k3b
        have l7 := g3.le
        simp -dsimp (maxSteps := 4000000) (disch := first | omega | assumption | (simp only [FB, Nat.reduceAdd]; done) | (simp only [LB]; omega)) only [EB, ↓reduceIte, WB, Nat.reduceSub, Nat.reduceAdd, Int.reduceEq, Int.reduceNe, Int.reduceLT, Int.reduceLE, Int.reduceAdd, Int.reduceSub, Int.reduceMul, Int.reduceNeg, Int.reduceToNat, Nat.reduceEqDiff, Nat.reduceLT, Nat.reduceLeDiff, Nat.reduceMul, List.replicate, reduceCtorEq, op_len und9 rfl, w2, w7, w15, w16, w17, w18', indexAddr_arr und48 size25, load_one agg25, hA07]
        have hok7 : (D.fuse (-1)).Ok l.length := ⟨hok.s, hok.c, hok.o, hok.l⟩
        refine sync_all hok7 (by omega) t3 fun n8 h8 d8 q8 S8 g4 => ?_
        have hsy : (D.fuse (-1)).sync = ({ D.fuse (-1) with du := D.im, ops := [], f := (D.fuse (-1)).dec, o := D.o + 1 }, 0) := by
          unfold Dv.sync; rw [if_neg (by simp [Dv.fuse])]; rfl
        obtain ⟨t4, t4q, t4S⟩ := g4.dev t3
        have l8 := g4.le
        have lt7 := t3.lt
        have lt8 := t4.lt
        have b3 : ∀ j, S7 j → (N2 ≤ j ∧ j < N3) ∨ n6 ≤ j := fun j hj => by
          rcases t3S j hj with h | h
          · exact .inl (hS3' j h)
          · exact .inr h
        have b4 : ∀ j, S8 j → (N2 ≤ j ∧ j < N3) ∨ n6 ≤ j := fun j hj => by
          rcases t4S j hj with h | h
          · exact b3 j h
          · right; omega
        have hA08 : look a.next h8 = _ := (g4.look (by omega) (by omega) (by omega)).trans hA07
        have g34 : ∀ j, j < n6 → j ≠ N2 → j ≠ q3 → look j h8 = look j h6 := fun j j1 j2 j3 => by rw [g4.look (by omega) j2 (by omega), g3.look j1 j2 j3]
        have t1b : DevS h8 n8 (a.next + 2) q5 S5 (D.crash []) := t1a.keep (by omega) (g34 _ (by omega) (by omega) (by omega)) (g34 _ (by omega) (by omega) (by omega)) fun j hj => by have := b1 j hj; have := lt5.2.2 j hj; exact g34 j (by omega) (by omega) (by omega)
        have t2b : DevS h8 n8 N1 q6 S6 (D.crash (downL P P)) := t2.keep (by omega) (g34 _ (by omega) (by omega) (by omega)) (g34 _ (by omega) (by omega) (by omega)) fun j hj => by have := b2 j hj; have := lt6.2.2 j hj; exact g34 j (by omega) (by omega) (by omega)
        have hu8 : ListV encI h8 m (.slice pu ks.length cu) ks := hu6.keep (Nat.le_refl _) fun j hj => g34 j (by omega) (by omega) (by omega)
        rw [hsy] at t4
        simp only [hsy]
        simp -dsimp (maxSteps := 4000000) (disch := first | omega | assumption | (simp only [FB, Nat.reduceAdd]; done) | (simp only [LB]; omega)) only [EB, ↓reduceIte, WB, Nat.reduceSub, Nat.reduceAdd, Int.reduceEq, Int.reduceNe, Int.reduceLT, Int.reduceLE, Int.reduceAdd, Int.reduceSub, Int.reduceMul, Int.reduceNeg, Int.reduceToNat, Nat.reduceEqDiff, Nat.reduceLT, Nat.reduceLeDiff, Nat.reduceMul, List.replicate, reduceCtorEq, op_len und9 rfl, w2, w7, w15, w16, w17, w18', indexAddr_arr und48 size25, load_one agg25, hA08]
        refine code_draw [(0, 2), (0, 3), (1, 2), (1, 3)] (by decide +kernel) (by decide +kernel) ?_
        simp -dsimp (maxSteps := 4000000) (disch := first | omega | assumption | (simp only [FB, Nat.reduceAdd]; done) | (simp only [LB]; omega)) only [EB, ↓reduceIte, WB, Nat.reduceSub, Nat.reduceAdd, Int.reduceEq, Int.reduceNe, Int.reduceLT, Int.reduceLE, Int.reduceAdd, Int.reduceSub, Int.reduceMul, Int.reduceNeg, Int.reduceToNat, Nat.reduceEqDiff, Nat.reduceLT, Nat.reduceLeDiff, Nat.reduceMul, List.replicate, reduceCtorEq, RB, Nat.reduceEqDiff, op_len und9 rfl, w2, w7, w15, w16, w17, w18', indexAddr_arr und48 size25, load_one agg25, hA08]
        refine own15 _ ks (by omega) (hu8.keep (by omega) fun _ _ => rfl) _ fun v9 n9 h9 hv9 hn9 hk9 => ?_
        have hA09 : look a.next h9 = _ := (hk9 a.next (by omega)).trans hA08
        have t1c := t1b.keep (h' := h9) (n' := n9) (by omega) (hk9 _ (by have := t1b.lt; omega)) (hk9 _ (by have := t1b.lt; omega)) fun j hj => hk9 j (by have := t1b.lt.2.2 j hj; omega)
        have t2c := t2b.keep (h' := h9) (n' := n9) (by omega) (hk9 _ (by have := t2b.lt; omega)) (hk9 _ (by have := t2b.lt; omega)) fun j hj => hk9 j (by have := t2b.lt.2.2 j hj; omega)
        have t4c := t4.keep (h' := h9) (n' := n9) (by omega) (hk9 _ (by omega)) (hk9 _ (by omega)) fun j hj => hk9 j (by have := t4.lt.2.2 j hj; omega)
        simp -dsimp (maxSteps := 4000000) (disch := first | omega | assumption | (simp only [FB, Nat.reduceAdd]; done) | (simp only [LB]; omega)) only [EB, ↓reduceIte, WB, Nat.reduceSub, Nat.reduceAdd, Int.reduceEq, Int.reduceNe, Int.reduceLT, Int.reduceLE, Int.reduceAdd, Int.reduceSub, Int.reduceMul, Int.reduceNeg, Int.reduceToNat, Nat.reduceEqDiff, Nat.reduceLT, Nat.reduceLeDiff, Nat.reduceMul, List.replicate, reduceCtorEq, RB, Nat.reduceEqDiff, op_len und9 rfl, ]
        have hok9 : Dv.Ok { D.fuse (-1) with du := D.im, ops := [], f := (D.fuse (-1)).dec, o := D.o + 1 } (l.length + 1) := ⟨hok.s, hok.c, by have := hok.o; simp only; omega, by simp⟩
        refine crash_all hok9 (by omega) ks (by omega) _ hv9 t4c fun n10 h10 d10 q10 S10 g5 => ?_
        have l10 := g5.le
        have hA10 : look a.next h10 = _ := (g5.look (by omega) (by omega) (by omega)).trans hA09
        obtain ⟨t5, t5q, t5S⟩ := g5.dev t4c
        have t1d := t1c.keep (h' := h10) (n' := n10) (by omega) (g5.look (by have := t1c.lt; omega) (by omega) (by omega)) (g5.look (by have := t1c.lt; omega) (by omega) (by omega)) fun j hj => by have := b1 j hj; have := lt5.2.2 j hj; exact g5.look (by omega) (by omega) (by omega)
        have t2d := t2c.keep (h' := h10) (n' := n10) (by omega) (g5.look (by have := t2c.lt; omega) (by omega) (by omega)) (g5.look (by have := t2c.lt; omega) (by omega) (by omega)) fun j hj => by have := b2 j hj; have := lt6.2.2 j hj; exact g5.look (by omega) (by omega) (by omega)
        simp -dsimp (maxSteps := 4000000) (disch := first | omega | assumption | (simp only [FB, Nat.reduceAdd]; done) | (simp only [LB]; omega)) only [EB, ↓reduceIte, WB, Nat.reduceSub, Nat.reduceAdd, Int.reduceEq, Int.reduceNe, Int.reduceLT, Int.reduceLE, Int.reduceAdd, Int.reduceSub, Int.reduceMul, Int.reduceNeg, Int.reduceToNat, Nat.reduceEqDiff, Nat.reduceLT, Nat.reduceLeDiff, Nat.reduceMul, List.replicate, reduceCtorEq, RB, Nat.reduceEqDiff, op_len und9 rfl, hA10]
        obtain ⟨v1, f1, z1, zp1, zl1, -⟩ := t1d.st
        obtain ⟨v2, f2, z2, zp2, zl2, -⟩ := t2d.st
        obtain ⟨v3, f3, z3, zp3, zl3, -⟩ := t5.st
        have hf0 : f1 = [] := List.length_eq_zero_iff.1 (by rw [zl1]; rfl)
        obtain rfl : v1 = .slice none 0 0 := by
          rcases zp1 with ⟨e, _⟩ | ⟨_, e, _⟩
          · exact e
          · exact absurd hf0 e
        have i1 : (D.crash []).im = D.du := by simp only [Dv.crash]; exact crashI_none _ _ _
        have i2 : (D.crash (downL P P)).im = D.im := by
          simp only [Dv.crash]
          rw [crashI_all D.ops 0 D.du (fun j _ hj => downL_all P j (by omega)), htold]
        have i3 : (Dv.crash { D.fuse (-1) with du := D.im, ops := [], f := (D.fuse (-1)).dec, o := D.o + 1 } ks).im = D.im := rfl
        rw [i1] at z1
        rw [i2] at z2
        rw [i3] at z3
        simp -dsimp (maxSteps := 4000000) (disch := first | omega | assumption | (simp only [FB, Nat.reduceAdd]; done) | (simp only [LB]; omega)) only [EB, ↓reduceIte, WB, Nat.reduceSub, Nat.reduceAdd, Int.reduceEq, Int.reduceNe, Int.reduceLT, Int.reduceLE, Int.reduceAdd, Int.reduceSub, Int.reduceMul, Int.reduceNeg, Int.reduceToNat, Nat.reduceEqDiff, Nat.reduceLT, Nat.reduceLeDiff, Nat.reduceMul, List.replicate, reduceCtorEq, op_len und9 rfl, w2, w7, w15, w16, w17, w18', indexAddr_arr und48 size25, load_one agg25, hA10, image18 z1, image18 z2, image18 z3, pending21 z1, hf0]
        rw [leave_fst flat_bool]
        rfl
end Go.Proofs.YtgdmgolmeeigdaaAM
