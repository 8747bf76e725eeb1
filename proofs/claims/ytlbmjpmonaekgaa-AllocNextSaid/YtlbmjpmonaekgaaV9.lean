/- Chapter 14: a script over an allocator. -/
import Derived.Test.YtlbmjpmonaekgaaV8
namespace Go.Proofs.YtlbmjpmonaekgaaAM
open Go Go.RowKit
set_option linter.unusedVariables false
set_option linter.unusedSimpArgs false
set_option maxRecDepth 10000
set_option maxHeartbeats 4000000

/-- A list that is read, whatever its elements. -/
def RowG {α : Type} (ev : α → Value) (h : List (Nat × Blk)) (n : Nat) (v : Value) (xs : List α) : Prop := ∃ po c, v = .slice po xs.length c ∧ (xs ≠ [] → ∃ b o sp rw_ c0, b < n ∧ po = some ⟨b, o, sp⟩ ∧ look b h = some (.cells c0 rw_) ∧ ∀ i, (hi : i < xs.length) → c0[o + i]? = some (ev xs[i]))
def ev64 (x : Int) : Value := .int .i64 x
def stepS (s : Al) (x : Int) : Al := if x < 0 then (takeS s).1 else (giveS s (x % 60)).1
theorem soilAll_fromB {U : Nat → Prop} {bs : Nat} {d : List Nat} (hd : FromU U d) : ∀ {m : List Nat}, (∀ j ∈ m, j < bs → U j) → FromU U (soilAll d bs m) := by
  intro m
  induction m with
  | nil => intro _; exact hd
  | cons i m ih =>
    intro h
    have h1 := ih fun j hj => h j (by simp [hj])
    have h2 := h i (by simp)
    show FromU U (if i < bs then (if (soilAll d bs m).contains i then soilAll d bs m else i :: soilAll d bs m) else soilAll d bs m)
    split
    · rename_i hi
      split
      · exact h1
      · intro j hj
        rcases List.mem_cons.1 hj with rfl | hj
        · exact h2 hi
        · exact h1 j hj
    · exact h1
/-- An allocator within a frame that turned it. -/
structure RunA (a : AW) (p t g b : Nat) (s s' : Al) (n : Nat) (h : List (Nat × Blk)) (d : List Nat) (b' : Nat) : Prop where
  st : AllocIs h n p t g b' s'
  le : a.next ≤ n
  fb : b' = b ∨ a.next ≤ b'
  out : ∀ j, j < a.next → j ≠ p → j ≠ t → j ≠ g → j ≠ b → look j h = look j a.heap
  fr : FromU (fun i => i = p ∨ i = t ∨ i = g ∨ i = b ∨ a.next ≤ i) d
  dd : (d = [] ∧ s' = s) ∨ ∃ i ∈ d, i = p ∨ i = t ∨ i = g
theorem RunA.start {a : AW} {p t g b : Nat} {s : Al} (hA : AllocIs a.heap a.next p t g b s) : RunA a p t g b s s a.next a.heap [] b :=
  ⟨hA, Nat.le_refl _, .inl rfl, fun _ _ _ _ _ _ => rfl, fun j hj => (by cases hj), .inl ⟨rfl, rfl⟩⟩
theorem RunA.step {a : AW} {p t g b n b' b'' : Nat} {s s' s'' : Al} {h : List (Nat × Blk)} {d : List Nat} {w : AW} (hr : RunA a p t g b s s' n h d b') (hlt : p < a.next ∧ t < a.next ∧ g < a.next) (ha : AftA ⟨n, h, a.next, d⟩ p t g b' s' s'' w b'') : ∃ n' h' d', w = ⟨n', h', a.next, d'⟩ ∧ n ≤ n' ∧ RunA a p t g b s s'' n' h' d' b'' := by
  rcases ha with ⟨rfl, rfl, rfl⟩ | ⟨x1, x2, x3, x4, x5, x6, x7, x8⟩
  · exact ⟨n, h, d, rfl, Nat.le_refl _, hr⟩
  · obtain ⟨n', h', bs', d'⟩ := w
    simp only at x1 x2 x3 x4 x5 x6 x7 x8
    subst x2
    have hle := hr.le
    refine ⟨n', h', d', rfl, x3, ⟨x1, by omega, ?_, fun j j1 j2 j3 j4 j5 => ?_, x6 _ (.inl rfl) (.inr (.inl rfl)) (.inr (.inr (.inl rfl))) ?_ hr.fr, ?_⟩⟩
    · rcases x4 with rfl | h
      · exact hr.fb
      · exact .inr (by omega)
    · have hb' : j ≠ b' := by
        rcases hr.fb with e | e
        · rw [e]; exact j5
        · omega
      rw [x5 j (by omega) j2 j3 j4 hb', hr.out j j1 j2 j3 j4 j5]
    · rcases hr.fb with e | e
      · exact .inr (.inr (.inr (.inl e)))
      · exact .inr (.inr (.inr (.inr e)))
    · exact .inr (x8 hlt.1 hlt.2.1 hlt.2.2)
/-- Behind the frame. -/
theorem RunA.leave {a : AW} {p t g b n b' : Nat} {s s' : Al} {h : List (Nat × Blk)} {d : List Nat} {vs : List Value} {K : Value → AW → Prop} (hr : RunA a p t g b s s' n h d b') (hA : AllocIs a.heap a.next p t g b s) (hb : a.base ≤ a.next) (hv : vs.all flat = true) (hK : ∀ a' b', AftA a p t g b s s' a' b' → K (oneOf vs) a') :
    K (oneOf (leaveA a vs ⟨n, h, a.next, d⟩).1) (leaveA a vs ⟨n, h, a.next, d⟩).2 := by
  obtain ⟨x1, x2, x3, x4, x5, x6⟩ := hr
  rcases x6 with ⟨rfl, rfl⟩ | ⟨i, hi, hip⟩
  · rw [leave_flat hv]
    exact hK a b (.inl ⟨rfl, rfl, rfl⟩)
  · rw [leave_dirtU (List.ne_nil_of_mem hi)]
    refine hK _ b' (.inr ⟨x1, rfl, x2, x3, x4, fun U u1 u2 u3 u4 hu => soilAll_fromB hu fun j hj hjb => ?_, fun b1 b2 b3 b4 => soil_from fun j hj => ?_, fun b1 b2 b3 => ⟨i, soilAll_memU ?_ hi, hip⟩⟩)
    · rcases x5 j hj with rfl | rfl | rfl | rfl | h
      · exact u1
      · exact u2
      · exact u3
      · exact u4
      · omega
    · rcases x5 j hj with rfl | rfl | rfl | rfl | h
      · exact b1
      · exact b2
      · exact b3
      · exact b4
      · omega
    · rcases hip with rfl | rfl | rfl <;> assumption
theorem take_len (s : Al) : (takeS s).1.len ≤ s.len + 1 := by
  obtain ⟨now, taken, gave, first, most⟩ := s
  unfold takeS
  have h : ∀ x, (addL taken x).length ≤ taken.length + 1 := fun x => by
    unfold addL; split <;> simp
  cases now with
  | cons x r =>
    have := h x
    simp only [Al.len, List.length_cons]; omega
  | nil =>
    have := h first
    simp only
    split
    · simp only [Al.len]; omega
    · simp only [Al.len]; omega
theorem give_len (s : Al) (x : Int) : (giveS s x).1.len ≤ s.len + 1 := by
  obtain ⟨now, taken, gave, first, most⟩ := s
  unfold giveS
  split
  · simp
  split
  · simp
  split
  · rename_i h
    simp only at h
    simp only [Al.len, insU_len, List.length_erase_of_mem h]
    have := List.length_pos_of_mem h
    omega
  · simp only [Al.len, addL]; split <;> simp <;> omega
theorem step_len (s : Al) (x : Int) : (stepS s x).len ≤ s.len + 1 := by
  unfold stepS
  split
  · exact take_len s
  · exact give_len s _
theorem run_len (s : Al) (xs : List Int) : (xs.foldl stepS s).len ≤ s.len + xs.length := by
  induction xs generalizing s with
  | nil => simp
  | cons x r ih =>
    have h1 := ih (stepS s x)
    have h2 := step_len s x
    simp only [List.foldl_cons, List.length_cons]
    omega
theorem call26 {a : AW} {p t g b m : Nat} {s : Al} (hA : AllocIs a.heap a.next p t g b s) (hb : a.base ≤ a.next) {v : Value} {xs : List Int} (hv : RowG ev64 a.heap m v xs) (hm : m ≤ p ∧ m ≤ t ∧ m ≤ g ∧ m ≤ b) (hl : s.len + xs.length ≤ 40000) (K : Value → AW → Prop)
    (hK : ∀ a' b', AftA a p t g b s (xs.foldl stepS s) a' b' → K (.tuple #[]) a') :
    WCall Try.prog GE 26 [.pointer (some ⟨p, 0, none⟩), v] a K := by
  rw [call_env Try.func26 rfl Try.ntmps26 rfl rfl (by simp)]
  obtain ⟨po, c, rfl, hrow⟩ := hv
  obtain ⟨N, hN⟩ : ∃ N, N = xs.length := ⟨_, rfl⟩
  have hlt := hA.lt
  rw [← hN] at hl ⊢
  simp -dsimp (maxSteps := 4000000) (disch := first | omega | assumption | (simp only [FB, Nat.reduceAdd]; done) | (simp only [LB]; omega)) only [EB, ↓reduceIte, WB, Nat.reduceSub, Nat.reduceAdd, Int.reduceEq, Int.reduceNe, Int.reduceLT, Int.reduceLE, Int.reduceAdd, Int.reduceSub, Int.reduceMul, Int.reduceNeg, Int.reduceToNat, Nat.reduceEqDiff, Nat.reduceLT, Nat.reduceLeDiff, Nat.reduceMul, List.replicate, reduceCtorEq, TB, NB, MB, ]
  refine loop_inv (fun k t1 w => ∃ (i n : Nat) (h : List (Nat × Blk)) (d : List Nat) (b' : Nat), ∃ e, k = N - i ∧ i ≤ N ∧ w = ⟨n, h, a.next, d⟩ ∧ RunA a p t g b s ((xs.take i).foldl stepS s) n h d b' ∧ t1 = TT 26 e ∧ e 0 = .pointer (some ⟨p, 0, none⟩) ∧ e 1 = .slice po N c ∧ e 4 = .int .i64 i)
    ⟨0, a.next, a.heap, [], b, _, rfl, Nat.zero_le _, rfl, .start hA, rfl, rfl, rfl, rfl⟩ ?_
  rintro k t1 w ⟨i, n, h, d, b', e, rfl, hi, rfl, hr, rfl, e0, e1, e4⟩
  by_cases hin : i < N
  · have hml : i < xs.length := by omega
    obtain ⟨bk, o, sp, rw_, c0, hbn, rfl, hbk, hat⟩ := hrow (by intro e; rw [e] at hN; simp at hN; omega)
    have hc : c0[o + i]? = some (.int .i64 xs[i]) := hat _ hml
    have hbk2 : look bk h = some (.cells c0 rw_) := (hr.out bk (by omega) (by omega) (by omega) (by omega) (by omega)).trans hbk
    have hlen := run_len s (xs.take i)
    have hti : (xs.take i).length = i := by rw [List.length_take]; omega
    rw [hti] at hlen
    have hfold : (xs.take (i + 1)).foldl stepS s = stepS ((xs.take i).foldl stepS s) xs[i] := by
      rw [List.take_add_one, List.getElem?_eq_getElem hml, Option.toList_some, List.foldl_append]; rfl
    by_cases hneg : xs[i] < 0
    · simp -dsimp (maxSteps := 4000000) (disch := first | omega | assumption | (simp only [FB, Nat.reduceAdd]; done) | (simp only [LB]; omega)) only [EB, ↓reduceIte, WB, Nat.reduceSub, Nat.reduceAdd, Int.reduceEq, Int.reduceNe, Int.reduceLT, Int.reduceLE, Int.reduceAdd, Int.reduceSub, Int.reduceMul, Int.reduceNeg, Int.reduceToNat, Nat.reduceEqDiff, Nat.reduceLT, Nat.reduceLeDiff, Nat.reduceMul, List.replicate, reduceCtorEq, TB, NB, MB, e0, e1, e4, show (i : Int) < N by omega, indexAddr_slice und23 size2, load_one agg2, hbk2, hc, hneg]
      refine take12 (a := ⟨n, h, a.next, d⟩) hr.st (by omega) _ fun a' b'' ha => ?_
      obtain ⟨n', h', d', rfl, hn', hr'⟩ := hr.step ⟨hlt.1, hlt.2.1, hlt.2.2.1⟩ ha
      simp -dsimp (maxSteps := 4000000) (disch := first | omega | assumption | (simp only [FB, Nat.reduceAdd]; done) | (simp only [LB]; omega)) only [EB, ↓reduceIte, WB, Nat.reduceSub, Nat.reduceAdd, Int.reduceEq, Int.reduceNe, Int.reduceLT, Int.reduceLE, Int.reduceAdd, Int.reduceSub, Int.reduceMul, Int.reduceNeg, Int.reduceToNat, Nat.reduceEqDiff, Nat.reduceLT, Nat.reduceLeDiff, Nat.reduceMul, List.replicate, reduceCtorEq, TB, NB, MB, e0, e1, e4, wrap64]
      refine ⟨trivial, N - (i + 1), by omega, i + 1, n', h', d', b'', _, rfl, by omega, rfl, ?_, rfl, ?_⟩
      · rw [hfold]; unfold stepS; rw [if_pos hneg]; exact hr'
      · simp only [ups_at, ↓reduceIte, Nat.reduceEqDiff]
        exact ⟨e0, e1, (by first | trivial | rfl | omega)⟩
    · have hrem : IntKind.wrap .u32 (xs[i].tmod 60) = xs[i] % 60 := by
        rw [Int.tmod_eq_emod_of_nonneg (by omega)]
        exact wrapu32 (by omega) (by omega)
      simp -dsimp (maxSteps := 4000000) (disch := first | omega | assumption | (simp only [FB, Nat.reduceAdd]; done) | (simp only [LB]; omega)) only [EB, ↓reduceIte, WB, Nat.reduceSub, Nat.reduceAdd, Int.reduceEq, Int.reduceNe, Int.reduceLT, Int.reduceLE, Int.reduceAdd, Int.reduceSub, Int.reduceMul, Int.reduceNeg, Int.reduceToNat, Nat.reduceEqDiff, Nat.reduceLT, Nat.reduceLeDiff, Nat.reduceMul, List.replicate, reduceCtorEq, TB, NB, MB, e0, e1, e4, show (i : Int) < N by omega, indexAddr_slice und23 size2, load_one agg2, hbk2, hc, hneg, op_conv_int und2 und27, conv_int und2 und27, hrem]
      refine give11 (a := ⟨n, h, a.next, d⟩) hr.st (by omega) _ (by omega) _ fun a' b'' ha => ?_
      obtain ⟨n', h', d', rfl, hn', hr'⟩ := hr.step ⟨hlt.1, hlt.2.1, hlt.2.2.1⟩ ha
      simp -dsimp (maxSteps := 4000000) (disch := first | omega | assumption | (simp only [FB, Nat.reduceAdd]; done) | (simp only [LB]; omega)) only [EB, ↓reduceIte, WB, Nat.reduceSub, Nat.reduceAdd, Int.reduceEq, Int.reduceNe, Int.reduceLT, Int.reduceLE, Int.reduceAdd, Int.reduceSub, Int.reduceMul, Int.reduceNeg, Int.reduceToNat, Nat.reduceEqDiff, Nat.reduceLT, Nat.reduceLeDiff, Nat.reduceMul, List.replicate, reduceCtorEq, TB, NB, MB, e0, e1, e4, wrap64]
      refine ⟨trivial, N - (i + 1), by omega, i + 1, n', h', d', b'', _, rfl, by omega, rfl, ?_, rfl, ?_⟩
      · rw [hfold]; unfold stepS; rw [if_neg hneg]; exact hr'
      · simp only [ups_at, ↓reduceIte, Nat.reduceEqDiff]
        exact ⟨e0, e1, (by first | trivial | rfl | omega)⟩
  · obtain rfl : i = N := by omega
    have htk : xs.take i = xs := by rw [hN]; exact List.take_length
    rw [htk] at hr
    simp -dsimp (maxSteps := 4000000) (disch := first | omega | assumption | (simp only [FB, Nat.reduceAdd]; done) | (simp only [LB]; omega)) only [EB, ↓reduceIte, WB, Nat.reduceSub, Nat.reduceAdd, Int.reduceEq, Int.reduceNe, Int.reduceLT, Int.reduceLE, Int.reduceAdd, Int.reduceSub, Int.reduceMul, Int.reduceNeg, Int.reduceToNat, Nat.reduceEqDiff, Nat.reduceLT, Nat.reduceLeDiff, Nat.reduceMul, List.replicate, reduceCtorEq, TB, NB, MB, e0, e1, e4, Int.lt_irrefl]
    exact hr.leave hA hb rfl hK
end Go.Proofs.YtlbmjpmonaekgaaAM
