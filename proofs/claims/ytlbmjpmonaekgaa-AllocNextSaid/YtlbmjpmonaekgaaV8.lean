/- Chapter 14: Give. -/
import Derived.Test.YtlbmjpmonaekgaaV7
namespace Go.Proofs.YtlbmjpmonaekgaaAM
open Go Go.RowKit
set_option linter.unusedVariables false
set_option linter.unusedSimpArgs false
set_option maxRecDepth 10000
set_option maxHeartbeats 4000000

def insU (xs : List Int) (x : Int) : List Int := xs.take (cntL xs x) ++ x :: xs.drop (cntL xs x)
def giveS (s : Al) (x : Int) : Al × Int :=
  if x < 2 ∨ s.first ≤ x then (s, 2)
  else if x ∈ s.now ∨ x ∈ s.gave then (s, 8)
  else if x ∈ s.taken then (⟨insU s.now x, s.taken.erase x, s.gave, s.first, s.most⟩, 0)
  else (⟨s.now, s.taken, addL s.gave x, s.first, s.most⟩, 0)
theorem mem_insU {xs : List Int} {x y : Int} : y ∈ insU xs x ↔ y = x ∨ y ∈ xs := by
  unfold insU
  rw [List.mem_append, List.mem_cons]
  have : y ∈ xs ↔ y ∈ xs.take (cntL xs x) ∨ y ∈ xs.drop (cntL xs x) := by
    rw [← List.mem_append, List.take_append_drop]
  rw [this]
  constructor
  · rintro (h | h | h)
    · exact .inr (.inl h)
    · exact .inl h
    · exact .inr (.inr h)
  · rintro (h | h | h)
    · exact .inr (.inl h)
    · exact .inl h
    · exact .inr (.inr h)
theorem insU_len (xs : List Int) (x : Int) : (insU xs x).length = xs.length + 1 := by
  unfold insU
  have := cntL_le xs x
  rw [List.length_append, List.length_cons, List.length_take, List.length_drop]
  omega
theorem insU_asc {x : Int} : ∀ {xs : List Int}, xs.Pairwise (· < ·) → x ∉ xs → (insU xs x).Pairwise (· < ·)
  | [], _, _ => by simp [insU, cntL]
  | y :: r, h, hx => by
    obtain ⟨h1, h2⟩ := List.pairwise_cons.1 h
    by_cases hy : y < x
    · have e : insU (y :: r) x = y :: insU r x := by
        unfold insU
        rw [cntL_cons, if_pos hy]
        rfl
      rw [e, List.pairwise_cons]
      refine ⟨fun z hz => ?_, insU_asc h2 fun hm => hx (by simp [hm])⟩
      rcases mem_insU.1 hz with rfl | hz
      · exact hy
      · exact h1 z hz
    · have e : insU (y :: r) x = x :: y :: r := by
        unfold insU
        rw [cntL_cons, if_neg hy]
        rfl
      have hne : y ≠ x := fun e => hx (by simp [e])
      rw [e, List.pairwise_cons]
      refine ⟨fun z hz => ?_, h⟩
      rcases List.mem_cons.1 hz with rfl | hz
      · omega
      · have := h1 z hz; omega
theorem wf_give {s : Al} (h : Wf s) (hn : s.taken.Nodup) (x : Int) : Wf (giveS s x).1 := by
  unfold giveS
  split
  · exact h
  split
  · exact h
  rename_i hr hm
  obtain ⟨now, taken, gave, first, most⟩ := s
  obtain ⟨h1, h2, h3, h4, h5, h6, h7, h8⟩ := h
  simp only at *
  have hx : 2 ≤ x ∧ x < first := by omega
  have hxn : x ∉ now := fun e => hm (.inl e)
  have hxg : x ∉ gave := fun e => hm (.inr e)
  split
  · rename_i ht
    refine ⟨insU_asc h1 hxn, fun y hy => ?_, fun y hy => h3 y (List.mem_of_mem_erase hy), h4, fun y hy hy2 => ?_, fun y hy => ?_, fun y hy => h7 y (List.mem_of_mem_erase hy), h8⟩
    · rcases mem_insU.1 hy with rfl | hy
      · exact hx
      · exact h2 y hy
    · rcases mem_insU.1 hy with rfl | hy
      · exact absurd hy2 (by simpa using hn.not_mem_erase)
      · exact h5 y hy (List.mem_of_mem_erase hy2)
    · rcases mem_insU.1 hy with rfl | hy
      · exact hxg
      · exact h6 y hy
  · rename_i ht
    refine ⟨h1, h2, h3, fun y hy => ?_, h5, fun y hy hy2 => ?_, fun y hy hy2 => ?_, h8⟩
    · rcases mem_addL.1 hy with rfl | hy
      · exact hx
      · exact h4 y hy
    · rcases mem_addL.1 hy2 with rfl | hy2
      · exact hxn hy
      · exact h6 y hy hy2
    · rcases mem_addL.1 hy2 with rfl | hy2
      · exact ht hy
      · exact h7 y hy hy2
theorem RowIs.keep {h h' : List (Nat × Blk)} {b : Nat} {v : Value} {xs : List Int} (hr : RowIs h b v xs) (hh : look b h' = look b h) : RowIs h' b v xs := by
  rcases hr with h | ⟨sp, e1, e2, e3⟩
  · exact .inl h
  · exact .inr ⟨sp, e1, by rw [hh]; exact e2, e3⟩
theorem AllocIs.keep {h h' : List (Nat × Blk)} {n n' p t g b : Nat} {s : Al} (hA : AllocIs h n p t g b s) (hn : n ≤ n') (hh : ∀ j, j = p ∨ j = t ∨ j = g ∨ j = b → look j h' = look j h) : AllocIs h' n' p t g b s := by
  obtain ⟨⟨v, hp, hr⟩, htk, hgv, ⟨hpn, htn, hgn, hbn⟩, hne, hwf⟩ := hA
  exact ⟨⟨v, by rw [hh p (.inl rfl)]; exact hp, hr.keep (hh b (.inr (.inr (.inr rfl))))⟩, by rw [hh t (.inr (.inl rfl))]; exact htk, by rw [hh g (.inr (.inr (.inl rfl)))]; exact hgv, ⟨by omega, by omega, by omega, by omega⟩, hne, hwf⟩
/-- slices.Insert of one number, as it is given. -/
theorem insert33 {a : AW} {b q : Nat} {v : Value} {xs : List Int} {x : Int} {i : Nat} (hr : RowIs a.heap b v xs) (hba : a.base ≤ a.next) (hq : look q a.heap = some (.cells [.int .u32 x] true)) (hqb : q ≠ b) (hi : i ≤ xs.length) (hl : xs.length ≤ 60000) (K : Value → AW → Prop)
    (hK : ∀ nb n' h' d', a.next ≤ nb → nb < n' → look nb h' = some (.cells ((xs.take i ++ x :: xs.drop i).map (Value.int .u32)) true) → (∀ j, j < a.next → j ≠ b → look j h' = look j a.heap) → (d' = a.dirty ∨ d' = soilW a.base a.dirty b) → K (.slice (some ⟨nb, 0, some 2⟩) (xs.length + 1) (xs.length + 1)) ⟨n', h', a.base, d'⟩) :
    WCall Try.prog GE 33 [v, .int .i64 i, .slice (some ⟨q, 0, some 0⟩) 1 1] a K := by
  have hgq : a.get q = some (.cells [.int .u32 x] true) := hq
  have hi2 : (i : Int) ≤ (xs.length : Int) := by omega
  have hi0 : (0 : Int) ≤ (i : Int) := by omega
  have hl2 : xs.length ≤ 900000 := by omega
  have hins : insertAt 1 i (xs.map (Value.int .u32)) [.int .u32 x] = (xs.take i ++ x :: xs.drop i).map (Value.int .u32) := by
    unfold insertAt
    rw [Nat.mul_one, ← List.map_take, ← List.map_drop, List.map_append, List.map_cons]
    simp
  have hone : (xs.map (Value.int .u32)).all Value.oneCell' = true := by rw [← encN_map]; exact allU_one _
  have hflt : (xs.map (Value.int .u32)).all flat = true := by rw [← encN_map]; exact allU_flat _
  have h1 : ([Value.int .u32 x] : List Value).all Value.oneCell' = true := rfl
  have h2 : ([Value.int .u32 x] : List Value).all flat = true := rfl
  rcases hr with ⟨rfl, rfl⟩ | ⟨sp, rfl, hb, hsp⟩
  · obtain rfl : i = 0 := by simpa using hi
    rw [call_given (v := (growA 1 1 [.int .u32 x] a).1) (w := (growA 1 1 [.int .u32 x] a).2) (by
      show insertG 1 [.slice none 0 0, .int .i64 (0 : Nat), .slice (some ⟨q, 0, some 0⟩) 1 1] a = _
      simp only [insertG, hgq, hba, h1, h2, List.length_cons, List.length_nil, Nat.zero_add, and_self, if_true]
      simp)]
    exact hK a.next (a.next + 1) _ a.dirty (Nat.le_refl _) (Nat.lt_succ_self _) look_self (fun j hj _ => look_miss (by omega)) (.inl rfl)
  · have hgb : a.get b = some (.cells (xs.map (Value.int .u32)) true) := hb
    have hil : Int.toNat (i : Int) = i := by omega
    rcases hsp with rfl | ⟨rfl, rfl⟩
    · rw [call_given (v := .slice (some ⟨a.next + 1, 0, some 2⟩) (xs.length + 1) (xs.length + 1)) (w := ⟨a.next + 2, (a.next + 1, .cells ((xs.take i ++ x :: xs.drop i).map (Value.int .u32)) true) :: kill b a.heap, a.base, soilW a.base a.dirty b⟩) (by
        show insertG 1 [.slice (some ⟨b, 0, some 2⟩) xs.length xs.length, .int .i64 (i : Int), .slice (some ⟨q, 0, some 0⟩) 1 1] a = _
        simp only [insertG, hgq, hgb, hba, h1, h2, hone, hflt, hi2, hi0, hl2, hil, hins, List.length_cons, List.length_nil, Nat.zero_add, List.length_map, Nat.mul_one, and_self, if_true, ne_eq, hqb, not_false_eq_true]
        rfl)]
      refine hK (a.next + 1) (a.next + 2) _ _ (by omega) (by omega) look_self (fun j hj hjb => ?_) (.inr rfl)
      rw [look_miss (by omega), look_wkill_ne hjb]
    · obtain rfl : i = 0 := by simpa using hi
      rw [call_given (v := .slice (some ⟨a.next, 0, some 2⟩) 1 1) (w := ⟨a.next + 1, (a.next, .cells [.int .u32 x] true) :: a.heap, a.base, a.dirty⟩) (by
        show insertG 1 [.slice (some ⟨b, 0, some 0⟩) 0 0, .int .i64 (0 : Nat), .slice (some ⟨q, 0, some 0⟩) 1 1] a = _
        simp only [insertG, hgq, hgb, hba, h1, h2, List.map_nil, List.length_cons, List.length_nil, Nat.zero_add, and_self, if_true, ne_eq, hqb, not_false_eq_true]
        simp
        rfl)]
      exact hK a.next (a.next + 1) _ a.dirty (Nat.le_refl _) (Nat.lt_succ_self _) look_self (fun j hj _ => look_miss (by omega)) (.inl rfl)
theorem give11 {a : AW} {p t g b : Nat} {s : Al} (hA : AllocIs a.heap a.next p t g b s) (hl : s.len ≤ 50000) (x : Int) (hx0 : 0 ≤ x) (K : Value → AW → Prop)
    (hK : ∀ a' b', AftA a p t g b s (giveS s x).1 a' b' → K (.int .i64 (giveS s x).2) a') :
    WCall Try.prog GE 11 [.pointer (some ⟨p, 0, none⟩), .int .u32 x] a K := by
  rw [call_env Try.func11 rfl Try.ntmps11 rfl rfl (by simp)]
  have hA0 := hA
  obtain ⟨⟨v, hp, hr⟩, htk, hgv, ⟨hpn, htn, hgn, hbn⟩, ⟨n1, n2, n3, n4, n5, n6⟩, hwf⟩ := hA
  have hwg := wf_give hwf htk.2 x
  obtain ⟨now, taken, gave, first, most⟩ := s
  simp only at hp hr htk hgv
  have hfm := hwf.fm
  simp only [Al.len] at hl
  simp only at hfm
  obtain ⟨po, rfl⟩ := hr.shape
  unfold giveS at hK hwg
  by_cases hx2 : x < 2
  · rw [if_pos (.inl hx2)] at hK
    simp -dsimp (maxSteps := 4000000) (disch := first | omega | assumption | (simp only [FB, Nat.reduceAdd]; done) | (simp only [LB]; omega)) only [EB, ↓reduceIte, WB, Nat.reduceSub, Nat.reduceAdd, Int.reduceEq, Int.reduceNe, Int.reduceLT, Int.reduceLE, Int.reduceAdd, Int.reduceSub, Int.reduceMul, Int.reduceNeg, Int.reduceToNat, Nat.reduceEqDiff, Nat.reduceLT, Nat.reduceLeDiff, Nat.reduceMul, List.replicate, reduceCtorEq, TB, NB, MB, eql_ptr und28, hp, hx2]
    exact hK a b (.inl ⟨rfl, rfl, rfl⟩)
  by_cases hxf : first ≤ x
  · rw [if_pos (.inr hxf)] at hK
    simp -dsimp (maxSteps := 4000000) (disch := first | omega | assumption | (simp only [FB, Nat.reduceAdd]; done) | (simp only [LB]; omega)) only [EB, ↓reduceIte, WB, Nat.reduceSub, Nat.reduceAdd, Int.reduceEq, Int.reduceNe, Int.reduceLT, Int.reduceLE, Int.reduceAdd, Int.reduceSub, Int.reduceMul, Int.reduceNeg, Int.reduceToNat, Nat.reduceEqDiff, Nat.reduceLT, Nat.reduceLeDiff, Nat.reduceMul, List.replicate, reduceCtorEq, TB, NB, MB, eql_ptr und28, hp, hx2, hxf, load_one agg27]
    exact hK a b (.inl ⟨rfl, rfl, rfl⟩)
  rw [if_neg (by simp only; omega)] at hK hwg
  have h32 := fun K => search32 (a := ⟨a.next, a.heap, a.next, []⟩) (hr.reads hbn) hwf.asc (show now.length ≤ 60000 by omega) x K
  have hh := has55 (a := ⟨a.next, a.heap, a.next, []⟩) hgv x
  by_cases hin : x ∈ now ∨ x ∈ gave
  · rw [if_pos hin] at hK
    by_cases hin1 : x ∈ now
    · simp -dsimp (maxSteps := 4000000) (disch := first | omega | assumption | (simp only [FB, Nat.reduceAdd]; done) | (simp only [LB]; omega)) only [EB, ↓reduceIte, WB, Nat.reduceSub, Nat.reduceAdd, Int.reduceEq, Int.reduceNe, Int.reduceLT, Int.reduceLE, Int.reduceAdd, Int.reduceSub, Int.reduceMul, Int.reduceNeg, Int.reduceToNat, Nat.reduceEqDiff, Nat.reduceLT, Nat.reduceLeDiff, Nat.reduceMul, List.replicate, reduceCtorEq, TB, NB, MB, eql_ptr und28, hp, hx2, hxf, load_one agg27, h32, hh, hin1]
      exact hK a b (.inl ⟨rfl, rfl, rfl⟩)
    · have hin2 : x ∈ gave := hin.resolve_left hin1
      simp -dsimp (maxSteps := 4000000) (disch := first | omega | assumption | (simp only [FB, Nat.reduceAdd]; done) | (simp only [LB]; omega)) only [EB, ↓reduceIte, WB, Nat.reduceSub, Nat.reduceAdd, Int.reduceEq, Int.reduceNe, Int.reduceLT, Int.reduceLE, Int.reduceAdd, Int.reduceSub, Int.reduceMul, Int.reduceNeg, Int.reduceToNat, Nat.reduceEqDiff, Nat.reduceLT, Nat.reduceLeDiff, Nat.reduceMul, List.replicate, reduceCtorEq, TB, NB, MB, eql_ptr und28, hp, hx2, hxf, load_one agg27, h32, hh, hin1, hin2]
      exact hK a b (.inl ⟨rfl, rfl, rfl⟩)
  · rw [if_neg hin] at hK hwg
    have hin1 : ¬ x ∈ now := fun h => hin (.inl h)
    have hin2 : ¬ x ∈ gave := fun h => hin (.inr h)
    have hA1 : AllocIs ((a.next, Blk.cells [] true) :: a.heap) (a.next + 1) p t g b ⟨now, taken, gave, first, most⟩ := hA0.keep (Nat.le_succ _) fun j hj => look_miss (by omega)
    have h22 := fun K => mine22 (a := ⟨a.next + 1, (a.next, Blk.cells [] true) :: a.heap, a.next, []⟩) hA1 x K
    by_cases ht : x ∈ taken
    · rw [if_pos ht] at hK hwg
      obtain ⟨bk, hdl, hbk⟩ := del55 (a := ⟨a.next + 1, (a.next, Blk.cells [] true) :: a.heap, a.next, []⟩) (r := t) hA1.tk x
      have hdel : builtinA Try.prog .delete #[55, 27] [.map (some t), .int .u32 x] ⟨a.next + 1, (a.next, Blk.cells [] true) :: a.heap, a.next, []⟩ = some (.tuple #[], AW.write ⟨a.next + 1, (a.next, Blk.cells [] true) :: a.heap, a.next, []⟩ t bk) := by
        show (deleteA Try.prog 55 (.map (some t)) (.int .u32 x) _).map _ = _
        rw [hdl]; rfl
      simp -dsimp (maxSteps := 4000000) (disch := first | omega | assumption | (simp only [FB, Nat.reduceAdd]; done) | (simp only [LB]; omega)) only [EB, ↓reduceIte, WB, Nat.reduceSub, Nat.reduceAdd, Int.reduceEq, Int.reduceNe, Int.reduceLT, Int.reduceLE, Int.reduceAdd, Int.reduceSub, Int.reduceMul, Int.reduceNeg, Int.reduceToNat, Nat.reduceEqDiff, Nat.reduceLT, Nat.reduceLeDiff, Nat.reduceMul, List.replicate, reduceCtorEq, TB, NB, MB, eql_ptr und28, hp, hx2, hxf, load_one agg27, h32, hh, hin1, hin2, h22, ht, op_delete, hdel, write_soil, buildSl1 sl25]
      obtain ⟨bt, hbt⟩ := htk.some_
      have hH : ∀ j, j < a.next → j ≠ t → look j ((a.next + 1, Blk.cells [.int .u32 x] true) :: (a.next, Blk.cells [] true) :: putAt t bk a.heap) = look j a.heap := fun j h1 h2 => by
        rw [look_miss (by omega), look_miss (by omega), look_wput_ne h2]
      refine insert33 (a := ⟨a.next + 2, (a.next + 1, Blk.cells [.int .u32 x] true) :: (a.next, Blk.cells [] true) :: putAt t bk a.heap, a.next, soilW a.next [] t⟩) (b := b) (q := a.next + 1) (xs := now) (x := x) (i := cntL now x) (hr.keep (hH b hbn n5)) (by simp only; omega) look_self (by omega) (cntL_le _ _) (by omega) _ fun nb n' h' d' x1 x2 x3 x4 x5 => ?_
      simp only at x1 x4 x5
      have hout : ∀ j, j < a.next → j ≠ t → j ≠ b → look j h' = look j a.heap := fun j h1 h2 h3 => (x4 j (by omega) h3).trans (hH j h1 h2)
      have hp2 := (hout p hpn (by omega) (by omega)).trans hp
      have hpn2 : p < n' := by omega
      simp -dsimp (maxSteps := 4000000) (disch := first | omega | assumption | (simp only [FB, Nat.reduceAdd]; done) | (simp only [LB]; omega)) only [EB, ↓reduceIte, WB, Nat.reduceSub, Nat.reduceAdd, Int.reduceEq, Int.reduceNe, Int.reduceLT, Int.reduceLE, Int.reduceAdd, Int.reduceSub, Int.reduceMul, Int.reduceNeg, Int.reduceToNat, Nat.reduceEqDiff, Nat.reduceLT, Nat.reduceLeDiff, Nat.reduceMul, List.replicate, reduceCtorEq, TB, NB, MB, hp2, storeVar_eq size25, write_soil]
      have hfd : FromU (fun i => i = p ∨ i = t ∨ i = g ∨ i = b) d' := by
        rcases x5 with rfl | rfl
        · exact fromU_soil (fun j hj => by cases hj) (.inr (.inl rfl))
        · exact fromU_soil (fromU_soil (fun j hj => by cases hj) (.inr (.inl rfl))) (.inr (.inr (.inr rfl)))
      refine leave_aftK (p := p) (t := t) (g := g) (b := b) (b' := nb) (s := ⟨now, taken, gave, first, most⟩) (s' := ⟨insU now x, taken.erase x, gave, first, most⟩) ⟨p, soilW_in hpn, .inl rfl⟩ (fromU_soil hfd (.inl rfl)) ?_ (by omega) (.inr (by omega)) (fun j j1 j2 j3 j4 j5 => ?_) fun a' ha => ?_
      · refine ⟨⟨_, by rw [look_wput_self, hp2]; rfl, .inr ⟨2, by rw [insU_len], by rw [look_wput_ne (by omega)]; exact x3, .inl rfl⟩⟩, ?_, ?_, by omega, ⟨n1, n2, n3, by omega, by omega, by omega⟩, hwg⟩
        · rw [look_wput_ne (by omega), x4 t (by omega) (by omega), look_miss (by omega), look_miss (by omega), look_wput_self, hbt]; exact hbk
        · rw [look_wput_ne (by omega), hout g hgn (by omega) (by omega)]; exact hgv
      · rw [look_wput_ne (by omega)]; exact hout j j1 j3 j5
      · exact hK a' _ ha
    · rw [if_neg ht] at hK hwg
      obtain ⟨bk, hup, hbk⟩ := put55 (a := ⟨a.next + 1, (a.next, Blk.cells [] true) :: a.heap, a.next, []⟩) (r := g) hA1.gv x
      simp -dsimp (maxSteps := 4000000) (disch := first | omega | assumption | (simp only [FB, Nat.reduceAdd]; done) | (simp only [LB]; omega)) only [EB, ↓reduceIte, WB, Nat.reduceSub, Nat.reduceAdd, Int.reduceEq, Int.reduceNe, Int.reduceLT, Int.reduceLE, Int.reduceAdd, Int.reduceSub, Int.reduceMul, Int.reduceNeg, Int.reduceToNat, Nat.reduceEqDiff, Nat.reduceLT, Nat.reduceLeDiff, Nat.reduceMul, List.replicate, reduceCtorEq, TB, NB, MB, eql_ptr und28, hp, hx2, hxf, load_one agg27, h32, hh, hin1, hin2, h22, ht, bld60, hup, write_soil]
      obtain ⟨bg, hbg⟩ := hgv.some_
      refine leave_aftK (p := p) (t := t) (g := g) (b := b) (b' := b) (s := ⟨now, taken, gave, first, most⟩) (s' := ⟨now, taken, addL gave x, first, most⟩) ⟨g, soilW_in hgn, .inr (.inr rfl)⟩ (fromU_soil (fun j hj => by cases hj) (.inr (.inr (.inl rfl)))) ?_ (by omega) (.inl rfl) (fun j j1 j2 j3 j4 j5 => ?_) fun a' ha => ?_
      · refine ⟨⟨_, by rw [look_miss (by omega), look_wput_ne (by omega)]; exact hp, hr.keep (by rw [look_miss (by omega), look_wput_ne (by omega)])⟩, ?_, ?_, by omega, ⟨n1, n2, n3, n4, n5, n6⟩, hwg⟩
        · rw [look_miss (by omega), look_wput_ne (by omega)]; exact htk
        · rw [look_miss (by omega), look_wput_self, hbg]; exact hbk
      · rw [look_miss (by omega), look_wput_ne (by omega)]
      · exact hK a' _ ha
end Go.Proofs.YtlbmjpmonaekgaaAM
