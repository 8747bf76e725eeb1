/- Chapter 14: Take. -/
import Derived.Test.YtlbmjpmonaekgaaV6
namespace Go.Proofs.YtlbmjpmonaekgaaAM
open Go Go.RowKit
set_option linter.unusedVariables false
set_option linter.unusedSimpArgs false
set_option maxRecDepth 10000
set_option maxHeartbeats 4000000

def FromU (U : Nat → Prop) (d : List Nat) : Prop := ∀ j ∈ d, U j
theorem soilAll_memU {bs i : Nat} {d : List Nat} (hi : i < bs) : ∀ {m : List Nat}, i ∈ m → i ∈ soilAll d bs m := by
  intro m
  induction m with
  | nil => intro h; cases h
  | cons j m ih =>
    intro h
    show i ∈ (if j < bs then (if (soilAll d bs m).contains j then soilAll d bs m else j :: soilAll d bs m) else soilAll d bs m)
    rcases List.mem_cons.1 h with rfl | h
    · rw [if_pos hi]
      split
      · rename_i hc; simpa using hc
      · simp
    · split
      · split
        · exact ih h
        · exact List.mem_cons_of_mem _ (ih h)
      · exact ih h
theorem soilAll_fromU {U : Nat → Prop} {bs : Nat} {d : List Nat} (hd : FromU U d) : ∀ {m : List Nat}, FromU U m → FromU U (soilAll d bs m) := by
  intro m
  induction m with
  | nil => intro _; exact hd
  | cons i m ih =>
    intro h
    have h1 := ih fun j hj => h j (by simp [hj])
    have h2 := h i (by simp)
    show FromU U (if i < bs then (if (soilAll d bs m).contains i then soilAll d bs m else i :: soilAll d bs m) else soilAll d bs m)
    split
    · split
      · exact h1
      · intro j hj
        rcases List.mem_cons.1 hj with rfl | hj
        · exact h2
        · exact h1 j hj
    · exact h1
theorem fromU_soil {U : Nat → Prop} {bs : Nat} {d : List Nat} {i : Nat} (h : FromU U d) (hi : U i) : FromU U (soilW bs d i) := by
  unfold soilW
  split
  · split
    · exact h
    · intro j hj
      rcases List.mem_cons.1 hj with rfl | hj
      · exact hi
      · exact h j hj
  · exact h
theorem soilW_in {bs i : Nat} {d : List Nat} (h : i < bs) : i ∈ soilW bs d i := by
  unfold soilW
  rw [if_pos h]
  split
  · rename_i hc; simpa using hc
  · simp
theorem leave_dirtU {before : AW} {vs : List Value} {n h bs d} (hd : d ≠ []) : leaveA before vs ⟨n, h, bs, d⟩ = (vs, ⟨n, h, before.base, soilAll before.dirty before.base d⟩) := by
  cases d with
  | nil => exact absurd rfl hd
  | cons i d => rfl
/-- What may have been touched. -/
def DirtA (bs : Nat) (d : List Nat) (p t g b : Nat) (d' : List Nat) : Prop :=
  (∀ U : Nat → Prop, U p → U t → U g → U b → FromU U d → FromU U d') ∧ (bs ≤ p → bs ≤ t → bs ≤ g → bs ≤ b → d' = d) ∧ (p < bs → t < bs → g < bs → ∃ i ∈ d', i = p ∨ i = t ∨ i = g)
/-- An allocator behind a call. -/
def AftA (a : AW) (p t g b : Nat) (s s' : Al) (a' : AW) (b' : Nat) : Prop :=
  (a' = a ∧ s' = s ∧ b' = b) ∨ (AllocIs a'.heap a'.next p t g b' s' ∧ a'.base = a.base ∧ a.next ≤ a'.next ∧ (b' = b ∨ a.next ≤ b') ∧ (∀ j, j < a.next → j ≠ p → j ≠ t → j ≠ g → j ≠ b → look j a'.heap = look j a.heap) ∧ DirtA a.base a.dirty p t g b a'.dirty)
/-- Behind the frame. -/
theorem leave_aft {a : AW} {p t g b b' n' : Nat} {h' : List (Nat × Blk)} {d' : List Nat} {s s' : Al} {vs : List Value} (hd : ∃ i ∈ d', i = p ∨ i = t ∨ i = g) (hf : FromU (fun i => i = p ∨ i = t ∨ i = g ∨ i = b) d') (hA' : AllocIs h' n' p t g b' s') (hn : a.next ≤ n') (hb' : b' = b ∨ a.next ≤ b')
    (hout : ∀ j, j < a.next → j ≠ p → j ≠ t → j ≠ g → j ≠ b → look j h' = look j a.heap) : ∃ a', leaveA a vs ⟨n', h', a.next, d'⟩ = (vs, a') ∧ AftA a p t g b s s' a' b' := by
  obtain ⟨i, hi, hip⟩ := hd
  refine ⟨_, leave_dirtU (List.ne_nil_of_mem hi), .inr ⟨hA', rfl, hn, hb', hout, fun U u1 u2 u3 u4 hu => soilAll_fromU hu fun j hj => ?_, fun b1 b2 b3 b4 => soil_from fun j hj => ?_, fun b1 b2 b3 => ⟨i, soilAll_memU ?_ hi, hip⟩⟩⟩
  · rcases hf j hj with rfl | rfl | rfl | rfl
    · exact u1
    · exact u2
    · exact u3
    · exact u4
  · rcases hf j hj with rfl | rfl | rfl | rfl <;> assumption
  · rcases hip with rfl | rfl | rfl <;> assumption
theorem leave_aftK {a : AW} {p t g b b' n' : Nat} {h' : List (Nat × Blk)} {d' : List Nat} {s s' : Al} {vs : List Value} {K : Value → AW → Prop} (hd : ∃ i ∈ d', i = p ∨ i = t ∨ i = g) (hf : FromU (fun i => i = p ∨ i = t ∨ i = g ∨ i = b) d') (hA' : AllocIs h' n' p t g b' s') (hn : a.next ≤ n') (hb' : b' = b ∨ a.next ≤ b')
    (hout : ∀ j, j < a.next → j ≠ p → j ≠ t → j ≠ g → j ≠ b → look j h' = look j a.heap) (hK : ∀ a', AftA a p t g b s s' a' b' → K (oneOf vs) a') : K (oneOf (leaveA a vs ⟨n', h', a.next, d'⟩).1) (leaveA a vs ⟨n', h', a.next, d'⟩).2 := by
  obtain ⟨a', e, ha⟩ := leave_aft (vs := vs) hd hf hA' hn hb' hout
  rw [e]
  exact hK a' ha
theorem SetIs.some_ {h : List (Nat × Blk)} {t : Nat} {L : List Int} (hs : SetIs (look t h) L) : ∃ bt, look t h = some bt := by
  obtain ⟨⟨es, ck, h, _⟩, _⟩ := hs
  exact ⟨_, h⟩
theorem bld60 : buildA Try.prog 60 [] = some (.agg #[]) := by kernel_rfl
def takeS (s : Al) : Al × Int × Int := match s.now with
  | x :: r => (⟨r, addL s.taken x, s.gave, s.first, s.most⟩, x, 0)
  | [] => if s.most ≤ s.first then (s, 0, 9) else (⟨[], addL s.taken s.first, s.gave, s.first + 1, s.most⟩, s.first, 0)
theorem wf_take {s : Al} (h : Wf s) : Wf (takeS s).1 := by
  obtain ⟨now, taken, gave, first, most⟩ := s
  obtain ⟨h1, h2, h3, h4, h5, h6, h7, h8⟩ := h
  simp only at *
  unfold takeS
  cases now with
  | cons x r =>
    simp only
    have hx := h2 x (by simp)
    have hxt := h5 x (by simp)
    have hxg := h6 x (by simp)
    have hasc := List.pairwise_cons.1 h1
    refine ⟨hasc.2, fun y hy => h2 y (by simp [hy]), fun y hy => ?_, h4, fun y hy hm => ?_, fun y hy => h6 y (by simp [hy]), fun y hy => ?_, h8⟩
    · rcases mem_addL.1 hy with rfl | hy
      · exact hx
      · exact h3 y hy
    · rcases mem_addL.1 hm with rfl | hm
      · have := hasc.1 y hy; omega
      · exact h5 y (by simp [hy]) hm
    · rcases mem_addL.1 hy with rfl | hy
      · exact hxg
      · exact h7 y hy
  | nil =>
    simp only
    split
    · exact ⟨h1, h2, h3, h4, h5, h6, h7, h8⟩
    · simp only
      refine ⟨.nil, fun y hy => (by cases hy), fun y hy => ?_, fun y hy => ?_, fun y hy => (by cases hy), fun y hy => (by cases hy), fun y hy hm => ?_, by simp only; omega⟩
      · rcases mem_addL.1 hy with rfl | hy
        · simp only; omega
        · have := h3 y hy; simp only; omega
      · have := h4 y hy; simp only; omega
      · rcases mem_addL.1 hy with rfl | hy
        · have := h4 _ hm; omega
        · exact h7 y hy hm
theorem delete34 {b n : Nat} {cs : List Value} {a : AW} (hb : look b a.heap = some (.cells cs true)) (hba : a.base ≤ a.next) (hn : 0 < n) (hl : cs.length = n) (h9 : n ≤ 900000) (ho : cs.all Value.oneCell' = true) (hf : cs.all flat = true) (K) :
    WCall Try.prog GE 34 [.slice (some ⟨b, 0, some 2⟩) n n, .int .i64 0, .int .i64 1] a K = K (.slice (some ⟨a.next + 1, 0, some 2⟩) (n - 1) (n - 1)) ⟨a.next + 2, (a.next + 1, .cells (cs.drop 1) true) :: kill b a.heap, a.base, soilW a.base a.dirty b⟩ := by
  refine call_given ?_
  have hg : a.get b = some (.cells cs true) := hb
  show cutG 1 [.slice (some ⟨b, 0, some 2⟩) n n, .int .i64 0, .int .i64 1] a = _
  simp only [cutG, hg, hba, hn, hl, Nat.mul_one, h9, ho, hf, and_self, if_true]
  rfl
theorem take12 {a : AW} {p t g b : Nat} {s : Al} (hA : AllocIs a.heap a.next p t g b s) (hl : s.len ≤ 50000) (K : Value → AW → Prop)
    (hK : ∀ a' b', AftA a p t g b s (takeS s).1 a' b' → K (.tuple #[.int .u32 (takeS s).2.1, .int .i64 (takeS s).2.2]) a') :
    WCall Try.prog GE 12 [.pointer (some ⟨p, 0, none⟩)] a K := by
  rw [call_env Try.func12 rfl Try.ntmps12 rfl rfl (by simp)]
  have hA0 := hA
  obtain ⟨⟨v, hp, hr⟩, htk, hgv, ⟨hpn, htn, hgn, hbn⟩, ⟨n1, n2, n3, n4, n5, n6⟩, hwf⟩ := hA
  obtain ⟨now, taken, gave, first, most⟩ := s
  simp only at *
  have hfm := hwf.fm
  simp only [Al.len] at hl
  simp only at hfm
  cases now with
  | cons x r =>
    rcases hr with ⟨-, hr⟩ | ⟨sp, rfl, hb, hsp⟩
    · cases hr
    obtain rfl : sp = 2 := by
      rcases hsp with h | ⟨_, h⟩
      · exact h
      · cases h
    have hlen : 0 < ((x :: r).length : Int) := by simp only [List.length_cons]; omega
    have h34 := fun K => delete34 (a := ⟨a.next, a.heap, a.next, []⟩) (b := b) (n := (x :: r).length) (cs := (x :: r).map (Value.int .u32)) hb (Nat.le_refl _) (by simp) (by simp) (by simp only [List.length_cons] at *; omega) (by rw [← encN_map]; exact allU_one _) (by rw [← encN_map]; exact allU_flat _) K
    generalize hLn : (x :: r).length = L at *
    have hc0 : ((x :: r).map (Value.int .u32))[0]? = some (.int .u32 x) := rfl
    simp -dsimp (maxSteps := 4000000) (disch := first | omega | assumption | (simp only [FB, Nat.reduceAdd]; done) | (simp only [LB]; omega)) only [EB, ↓reduceIte, WB, Nat.reduceSub, Nat.reduceAdd, Int.reduceEq, Int.reduceNe, Int.reduceLT, Int.reduceLE, Int.reduceAdd, Int.reduceSub, Int.reduceMul, Int.reduceNeg, Int.reduceToNat, Nat.reduceEqDiff, Nat.reduceLT, Nat.reduceLeDiff, Nat.reduceMul, List.replicate, reduceCtorEq, TB, NB, MB, eql_ptr und28, hp, hlen, indexAddr_slice und25 size27, load_one agg27, hb, hc0, h34, storeVar_eq size25, write_soil, bld60]
    have hset : SetIs (look t ((a.next + 1, Blk.cells (List.drop 1 (List.map (Value.int .u32) (x :: r))) true) :: putAt p (Blk.cells [.slice (some ⟨a.next + 1, 0, some 2⟩) (L - 1) (L - 1), .map (some t), .map (some g), .int .u32 first, .int .u32 most] true) (kill b a.heap))) taken := by
      rw [look_miss (by omega), look_wput_ne (by omega), look_wkill_ne (by omega)]; exact htk
    obtain ⟨bk, hup, hbk⟩ := put55 (a := ⟨a.next + 2, (a.next + 1, Blk.cells (List.drop 1 (List.map (Value.int .u32) (x :: r))) true) :: putAt p (Blk.cells [.slice (some ⟨a.next + 1, 0, some 2⟩) (L - 1) (L - 1), .map (some t), .map (some g), .int .u32 first, .int .u32 most] true) (kill b a.heap), a.next, soilW a.next (soilW a.next [] b) p⟩) hset x
    simp -dsimp (maxSteps := 4000000) (disch := first | omega | assumption | (simp only [FB, Nat.reduceAdd]; done) | (simp only [LB]; omega)) only [EB, ↓reduceIte, WB, Nat.reduceSub, Nat.reduceAdd, Int.reduceEq, Int.reduceNe, Int.reduceLT, Int.reduceLE, Int.reduceAdd, Int.reduceSub, Int.reduceMul, Int.reduceNeg, Int.reduceToNat, Nat.reduceEqDiff, Nat.reduceLT, Nat.reduceLeDiff, Nat.reduceMul, List.replicate, reduceCtorEq, TB, NB, MB, hup, write_soil]
    obtain ⟨bt, hbt⟩ := htk.some_
    refine leave_aftK (p := p) (t := t) (g := g) (b := b) (b' := a.next + 1) (s := ⟨x :: r, taken, gave, first, most⟩) (s' := (takeS ⟨x :: r, taken, gave, first, most⟩).1) ⟨t, soilW_in htn, .inr (.inl rfl)⟩ (fromU_soil (fromU_soil (fromU_soil (fun j hj => by cases hj) (.inr (.inr (.inr rfl)))) (.inl rfl)) (.inr (.inl rfl))) ?_ (by omega) (.inr (by omega)) (fun j j1 j2 j3 j4 j5 => ?_) fun a' ha => ?_
    · refine ⟨⟨_, by rw [look_miss (by omega), look_wput_ne (by omega), look_wput_self, look_wkill_ne (by omega), hp]; rfl, .inr ⟨2, ?_, look_self, .inl rfl⟩⟩, ?_, ?_, by omega, ⟨n1, n2, n3, by omega, by omega, by omega⟩, wf_take hwf⟩
      · show Value.slice _ (L - 1) (L - 1) = .slice _ r.length r.length
        rw [show L - 1 = r.length by rw [← hLn]; simp]
      · rw [look_miss (by omega), look_wput_self, look_wput_ne (by omega), look_wkill_ne (by omega), hbt]; exact hbk
      · rw [look_miss (by omega), look_wput_ne (by omega), look_wput_ne (by omega), look_wkill_ne (by omega)]; exact hgv
    · rw [look_miss (by omega), look_wput_ne (by omega), look_wput_ne (by omega), look_wkill_ne (by omega)]
    · exact hK a' _ ha
  | nil =>
    obtain ⟨po, rfl⟩ := hr.shape
    simp only [List.length_nil] at hp hr
    have h00 : ¬ (0 : Int) < ((0 : Nat) : Int) := by omega
    simp -dsimp (maxSteps := 4000000) (disch := first | omega | assumption | (simp only [FB, Nat.reduceAdd]; done) | (simp only [LB]; omega)) only [EB, ↓reduceIte, WB, Nat.reduceSub, Nat.reduceAdd, Int.reduceEq, Int.reduceNe, Int.reduceLT, Int.reduceLE, Int.reduceAdd, Int.reduceSub, Int.reduceMul, Int.reduceNeg, Int.reduceToNat, Nat.reduceEqDiff, Nat.reduceLT, Nat.reduceLeDiff, Nat.reduceMul, List.replicate, reduceCtorEq, TB, NB, MB, eql_ptr und28, hp, h00]
    refine code_draw [(0, 4), (0, 5), (0, 6), (0, 7), (1, 4), (1, 5), (1, 6), (1, 7), (2, 4), (2, 5), (2, 6), (2, 7), (3, 4), (3, 5), (3, 6), (3, 7)] (by decide +kernel) (by decide +kernel) ?_
    by_cases hfull : most ≤ first
    · simp -dsimp (maxSteps := 4000000) (disch := first | omega | assumption | (simp only [FB, Nat.reduceAdd]; done) | (simp only [LB]; omega)) only [EB, ↓reduceIte, WB, Nat.reduceSub, Nat.reduceAdd, Int.reduceEq, Int.reduceNe, Int.reduceLT, Int.reduceLE, Int.reduceAdd, Int.reduceSub, Int.reduceMul, Int.reduceNeg, Int.reduceToNat, Nat.reduceEqDiff, Nat.reduceLT, Nat.reduceLeDiff, Nat.reduceMul, List.replicate, reduceCtorEq, RB, Nat.reduceEqDiff, TB, NB, MB, hp, hfull]
      have e : takeS ⟨[], taken, gave, first, most⟩ = (⟨[], taken, gave, first, most⟩, 0, 9) := by simp [takeS, hfull]
      rw [e] at hK
      exact hK a b (.inl ⟨rfl, rfl, rfl⟩)
    · have hw := wrapu32 (show 0 ≤ first + 1 by omega) (by omega)
      simp -dsimp (maxSteps := 4000000) (disch := first | omega | assumption | (simp only [FB, Nat.reduceAdd]; done) | (simp only [LB]; omega)) only [EB, ↓reduceIte, WB, Nat.reduceSub, Nat.reduceAdd, Int.reduceEq, Int.reduceNe, Int.reduceLT, Int.reduceLE, Int.reduceAdd, Int.reduceSub, Int.reduceMul, Int.reduceNeg, Int.reduceToNat, Nat.reduceEqDiff, Nat.reduceLT, Nat.reduceLeDiff, Nat.reduceMul, List.replicate, reduceCtorEq, RB, Nat.reduceEqDiff, TB, NB, MB, hp, hfull, load_one agg27, hw, storeVar_eq size27, write_soil, bld60]
      have hset : SetIs (look t (putAt p (Blk.cells [.slice po 0 0, .map (some t), .map (some g), .int .u32 (first + 1), .int .u32 most] true) a.heap)) taken := by
        rw [look_wput_ne (by omega)]; exact htk
      obtain ⟨bk, hup, hbk⟩ := put55 (a := ⟨a.next + 1, putAt p (Blk.cells [.slice po 0 0, .map (some t), .map (some g), .int .u32 (first + 1), .int .u32 most] true) a.heap, a.next, soilW a.next [] p⟩) hset first
      simp -dsimp (maxSteps := 4000000) (disch := first | omega | assumption | (simp only [FB, Nat.reduceAdd]; done) | (simp only [LB]; omega)) only [EB, ↓reduceIte, WB, Nat.reduceSub, Nat.reduceAdd, Int.reduceEq, Int.reduceNe, Int.reduceLT, Int.reduceLE, Int.reduceAdd, Int.reduceSub, Int.reduceMul, Int.reduceNeg, Int.reduceToNat, Nat.reduceEqDiff, Nat.reduceLT, Nat.reduceLeDiff, Nat.reduceMul, List.replicate, reduceCtorEq, TB, NB, MB, hup, write_soil]
      obtain ⟨bt, hbt⟩ := htk.some_
      have e : takeS ⟨[], taken, gave, first, most⟩ = (⟨[], addL taken first, gave, first + 1, most⟩, first, 0) := by simp [takeS, hfull]
      have hwt := wf_take hwf
      rw [e] at hK hwt
      refine leave_aftK (p := p) (t := t) (g := g) (b := b) (b' := b) (s := ⟨[], taken, gave, first, most⟩) (s' := ⟨[], addL taken first, gave, first + 1, most⟩) ⟨t, soilW_in htn, .inr (.inl rfl)⟩ (fromU_soil (fromU_soil (fun j hj => by cases hj) (.inl rfl)) (.inr (.inl rfl))) ?_ (by omega) (.inl rfl) (fun j j1 j2 j3 j4 j5 => ?_) fun a' ha => ?_
      · refine ⟨⟨_, by rw [look_wput_ne (by omega), look_wput_self, hp]; rfl, ?_⟩, ?_, ?_, by omega, ⟨n1, n2, n3, n4, n5, n6⟩, hwt⟩
        · rcases hr with h | ⟨sp, e1, e2, e3⟩
          · exact .inl h
          · exact .inr ⟨sp, e1, by rw [look_wput_ne (by omega), look_wput_ne (by omega)]; exact e2, e3⟩
        · rw [look_wput_self, look_wput_ne (by omega), hbt]; exact hbk
        · rw [look_wput_ne (by omega), look_wput_ne (by omega)]; exact hgv
      · rw [look_wput_ne (by omega), look_wput_ne (by omega)]
      · exact hK a' _ ha
end Go.Proofs.YtlbmjpmonaekgaaAM
