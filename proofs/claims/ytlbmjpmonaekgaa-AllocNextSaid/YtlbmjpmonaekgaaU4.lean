/- Chapter 14: slices.Collect, slices.Sorted of an iterator. -/
import Derived.Test.YtlbmjpmonaekgaaU3
import Derived.Test.YtlbmjpmonaekgaaS9
namespace Go.Proofs.YtlbmjpmonaekgaaAM
open Go Go.RowKit
set_option linter.unusedVariables false
set_option linter.unusedSimpArgs false
set_option maxRecDepth 10000
set_option maxHeartbeats 4000000

section
variable {G : Gives} {f : FuncId} {fd : Func} {q o : Nat} {a : AW} {N : Nat} {S : Int → Prop} {R : List Int → Prop}
/-- What an iterator's call comes to, whatever loop it feeds. -/
def Feeds (G : Gives) (f : FuncId) (q o : Nat) (a : AW) (N : Nat) (S : Int → Prop) (R : List Int → Prop) : Prop :=
  ∀ (a1 : AW) l I, a1.base ≤ a1.next → l < a1.next → a.next ≤ a1.next → (∀ i, i < a.next → a1.get i = a.get i) → Iter Try.prog G l a1 a.next N S I → CallSim Try.prog f #[.func (.yield l) #[] #[], .pointer (some ⟨q, o, none⟩)] a1 fun v b => ∃ ss, R ss ∧ I ss b
theorem Feeds.frame (h : Feeds G f q o a N S R) {bs : Nat} {d : List Nat} : Feeds G f q o ⟨a.next, a.heap, bs, d⟩ N S R := h
theorem coll50 (hG : G.Sound Try.prog) (hfd : Try.prog.funcs[f]? = some fd) (hbd : fd.body.isSome = true) (hb : a.base ≤ a.next) (hcl : Cl a.next a.heap) (hN : N ≤ 1000000) (hit : Feeds G f q o a N S R) :
    CallSim Try.prog 50 #[.func (.func f) #[] #[.pointer (some ⟨q, o, none⟩)]] a fun v b => ∃ ss, R ss ∧ ListR encN 2 a ss v b := by
  refine callsim_code plain Try.func50 rfl Try.ntmps50 rfl (args := [.func (.func f) #[] #[.pointer (some ⟨q, o, none⟩)]]) hb ?_
  refine csimd_seq (csimd_W mixed plain hG (Nat.le_refl _) ?_)
  simp -dsimp (maxSteps := 4000000) (disch := first | omega | assumption | (simp only [FB, Nat.reduceAdd]; done) | (simp only [LB]; omega)) only [WB, Nat.reduceSub, Nat.reduceAdd, Int.reduceEq, Int.reduceNe, Int.reduceLT, Int.reduceLE, Int.reduceAdd, Int.reduceSub, Int.reduceMul, Int.reduceNeg, Int.reduceToNat, Nat.reduceEqDiff, Nat.reduceLT, Nat.reduceLeDiff, Nat.reduceMul, List.replicate, reduceCtorEq, TB, NB, MB, ]
  refine ⟨trivial, ?_⟩
  refine csimd_seq (csimd_region ?_)
  show OpsSim _ _ [0, 1, 2] _ _ _
  refine opssim_value rfl rfl (Nat.le_refl _) rfl ?_
  refine opssim_call rfl rfl (Nat.le_refl _) rfl (coll58 hG hfd hbd (a := ⟨a.next, a.heap, a.next, []⟩) (Nat.le_refl _) hcl hN hit.frame) ?_
  rintro v b ⟨ss, hR, hL⟩
  obtain ⟨f1, f2, f3, f4⟩ := hL.frame
  refine opssim_value rfl rfl (by rw [f1]; exact f3) rfl ?_
  refine opssim_nil ⟨rfl, csimd_W mixed plain hG (by rw [f1]; exact f3) ?_⟩
  obtain ⟨n, h, bs, d⟩ := b
  simp only at f1 f2 f3 f4
  subst f1 f2
  have ho := hL.out
  obtain ⟨up, uc, rfl⟩ := ho.shape
  show WCode _ _ _ _ _ [.func (.func f) #[] #[.pointer (some ⟨q, o, none⟩)], undef, .slice up ss.length uc, .func (.func f) #[] #[.pointer (some ⟨q, o, none⟩)], .slice up ss.length uc] _ _ _
  simp -dsimp (maxSteps := 4000000) (disch := first | omega | assumption | (simp only [FB, Nat.reduceAdd]; done) | (simp only [LB]; omega)) only [WB, Nat.reduceSub, Nat.reduceAdd, Int.reduceEq, Int.reduceNe, Int.reduceLT, Int.reduceLE, Int.reduceAdd, Int.reduceSub, Int.reduceMul, Int.reduceNeg, Int.reduceToNat, Nat.reduceEqDiff, Nat.reduceLT, Nat.reduceLeDiff, Nat.reduceMul, List.replicate, reduceCtorEq, TB, NB, MB, ]
  have hl := leave_list' (a := a) (bs := a.next) ho (Nat.le_refl _)
  exact ⟨⟨ss, hR, hl⟩, hl.evo hb⟩
/-- What is known holds wherever it is called. -/
theorem known_sim {k : Known} (h : k.Holds Try.prog) : CallSim Try.prog k.f k.args a fun v b => v = k.v ∧ b = a := by
  intro ρ w args' hw ha
  obtain ⟨q1, q2, ⟨fn, q3, q4⟩, q5⟩ := h
  have he : args' = k.args := Array.toList_inj.1 (flats_eq q1 ha)
  subst he
  refine .inr ⟨names_enter plain q3 q4 _ w, (q5 w).mono ?_⟩
  rintro e w' ⟨he, hbel⟩
  exact ⟨k.v, he, k.v, a, ρ, ⟨rfl, rfl⟩, .refl _, step_below hw hbel, flat_self q2⟩
def kSort0 : Known := ⟨51, #[.slice none 0 0], .tuple #[]⟩
theorem sort0_holds : kSort0.Holds Try.prog := known_more mixed plain (l := []) (by intro k hk; cases hk) Try.func51 (by kernel_rfl) (n := 1000) rfl rfl (by kernel_rfl)
/-- The row in rising order. -/
def srtU (l : List Int) : List Int := l.mergeSort fun x y => decide (x ≤ y)
theorem srtU_perm (l : List Int) : (srtU l).Perm l := List.mergeSort_perm l _
theorem srtU_srt (l : List Int) : (srtU l).Pairwise (· ≤ ·) := by
  refine (List.pairwise_mergeSort ?_ ?_ l).imp fun h => by simpa using h
  · intro a b c h1 h2; simp only [decide_eq_true_eq] at *; omega
  · intro a b; simp only [Bool.or_eq_true, decide_eq_true_eq]; omega
theorem srtU_of {l l' : List Int} (hp : l'.Perm l) (hs : l'.Pairwise (· ≤ ·)) : l' = srtU l :=
  List.Perm.eq_of_pairwise (le := fun a b : Int => a ≤ b) (fun a b _ _ h1 h2 => Int.le_antisymm h1 h2) hs (srtU_srt l) (hp.trans (srtU_perm l).symm)
theorem srtU_len (l : List Int) : (srtU l).length = l.length := (srtU_perm l).length_eq
theorem srt_arr {ss : List Int} {d' : Array Int} (h1 : Go.Sort.PermIn 0 ss.length ss.toArray d') (h2 : Go.Sort.SortedIn Go.Sort.ltInt 0 ss.length d') {xs : List Int} (hp : ss.Perm xs) : d'.toList = srtU xs := by
  obtain ⟨e1, -, e3⟩ := h1
  have hsz : d'.size = ss.length := by simpa using e1
  have hx1 : (d'.extract 0 ss.length).toList = d'.toList := by rw [← hsz]; simp
  have hx2 : (ss.toArray.extract 0 ss.length).toList = ss := by simp
  rw [hx1, hx2] at e3
  refine srtU_of (e3.trans hp) ?_
  rw [List.pairwise_iff_getElem]
  intro i j hi hj hij
  have hj' : j < d'.size := by simpa using hj
  have := h2 i j (Nat.zero_le _) hij (by omega)
  rw [getElem!_pos d' j hj', getElem!_pos d' i (by omega)] at this
  simp only [Go.Sort.ltInt, decide_eq_false_iff_not] at this
  simp only [Array.getElem_toList]
  omega
theorem sorted35 (hfd : Try.prog.funcs[f]? = some fd) (hbd : fd.body.isSome = true) (hb : a.base ≤ a.next) (hcl : Cl a.next a.heap) (hN : N ≤ 1000000) (hit : Feeds GC f q o a N S R) {xs : List Int} (hR : ∀ ss, R ss → ss.Perm xs) (hx : xs.length < 65536) :
    CallSim Try.prog 35 #[.func (.func f) #[] #[.pointer (some ⟨q, o, none⟩)]] a fun v b => ListR encN 2 a (srtU xs) v b := by
  refine callsim_code plain Try.func35 rfl Try.ntmps35 rfl (args := [.func (.func f) #[] #[.pointer (some ⟨q, o, none⟩)]]) hb ?_
  refine csimd_seq (csimd_W mixed plain cut_ok (Nat.le_refl _) ?_)
  simp -dsimp (maxSteps := 4000000) (disch := first | omega | assumption | (simp only [FB, Nat.reduceAdd]; done) | (simp only [LB]; omega)) only [WB, Nat.reduceSub, Nat.reduceAdd, Int.reduceEq, Int.reduceNe, Int.reduceLT, Int.reduceLE, Int.reduceAdd, Int.reduceSub, Int.reduceMul, Int.reduceNeg, Int.reduceToNat, Nat.reduceEqDiff, Nat.reduceLT, Nat.reduceLeDiff, Nat.reduceMul, List.replicate, reduceCtorEq, TB, NB, MB, ]
  refine ⟨trivial, ?_⟩
  refine csimd_seq (csimd_region ?_)
  show OpsSim _ _ [0, 1, 2] _ _ _
  refine opssim_value rfl rfl (Nat.le_refl _) rfl ?_
  refine opssim_call rfl rfl (Nat.le_refl _) rfl (coll50 cut_ok hfd hbd (a := ⟨a.next, a.heap, a.next, []⟩) (Nat.le_refl _) hcl hN hit.frame) ?_
  rintro v b ⟨ss, hRs, hL⟩
  have hp := hR ss hRs
  have hlen := hp.length_eq
  obtain ⟨f1, f2, f3, f4⟩ := hL.frame
  refine opssim_value rfl rfl (by rw [f1]; exact f3) rfl ?_
  refine opssim_nil ⟨rfl, ?_⟩
  have hfin : ∀ (v u : Value) (n : Nat) (h : List (Nat × Blk)), OutG encN 2 h n a.next v (srtU xs) → a.next ≤ n →
      CSimD Try.prog 35 (.seq (.region 3 #[{ dst := some 8, op := Op.move (Operand.tmp 3), type := 25, pos := "iter.go:69", after := #[], guard := none }, { dst := some 2, op := Op.assign (Operand.tmp 8), type := 25, pos := "iter.go:69", after := #[{ on := 0, ground := Ground.data }, { on := 0, ground := Ground.phase }], guard := none }] false) .ret)
        [.func (.func f) #[] #[.pointer (some ⟨q, o, none⟩)], undef, .slice none 0 0, v, .func (.func f) #[] #[.pointer (some ⟨q, o, none⟩)], v, v, u, undef] [] ⟨n, h, a.next, []⟩ fun e t ds a1 => WRet Try.prog a [ResultVar.tmp 2] e t ds a1 fun v a' => ListR encN 2 a (srtU xs) v a' ∧ Evo a a' := by
    intro v u n h ho hn
    obtain ⟨up, uc, rfl⟩ := ho.shape
    refine csimd_W mixed plain cut_ok hn ?_
    simp -dsimp (maxSteps := 4000000) (disch := first | omega | assumption | (simp only [FB, Nat.reduceAdd]; done) | (simp only [LB]; omega)) only [WB, Nat.reduceSub, Nat.reduceAdd, Int.reduceEq, Int.reduceNe, Int.reduceLT, Int.reduceLE, Int.reduceAdd, Int.reduceSub, Int.reduceMul, Int.reduceNeg, Int.reduceToNat, Nat.reduceEqDiff, Nat.reduceLT, Nat.reduceLeDiff, Nat.reduceMul, List.replicate, reduceCtorEq, TB, NB, MB, ]
    have hl := leave_list' (a := a) (bs := a.next) ho (Nat.le_refl _)
    exact ⟨hl, hl.evo hb⟩
  refine csimd_seq (csimd_region ?_)
  show OpsSim _ _ [0, 1] _ _ _
  refine opssim_value rfl rfl (by rw [f1]; exact f3) rfl ?_
  rcases hL with ⟨rfl, rfl, rfl⟩ | ⟨hne, rfl, rfl⟩
  · refine opssim_call rfl rfl (Nat.le_refl _) rfl (known_sim (a := ⟨a.next, a.heap, a.next, []⟩) sort0_holds) ?_
    rintro _ _ ⟨rfl, rfl⟩
    refine opssim_nil ⟨rfl, hfin _ _ _ _ (.inl ⟨rfl, ?_⟩) (Nat.le_refl _)⟩
    have := srtU_len xs
    exact List.eq_nil_of_length_eq_zero (by rw [this, ← hlen]; rfl)
  · have hcu : cU ss.toArray = ss.flatMap encN := by rw [encN_map]; rfl
    refine opssim_call rfl rfl (Nat.le_succ _) rfl (callsim_W (K := fun v b => ∃ d', v = .tuple #[] ∧ Go.Sort.PermIn 0 ss.length ss.toArray d' ∧ Go.Sort.SortedIn Go.Sort.ltInt 0 ss.length d' ∧ Aft ⟨a.next + 1, (a.next, .cells (ss.flatMap encN) true) :: a.heap, a.next, []⟩ b a.next ss.toArray d') mixed plain cut_ok (Nat.le_succ _) (sort51 a.next ss.length ss.length (some 2) (by omega) ss.toArray (by simp) _ (by rw [hcu]; exact look_self) (Nat.lt_succ_self _) _ fun a' d' h1 h2 h3 => ⟨d', rfl, h1, h2, h3⟩)) ?_
    rintro _ b ⟨d', rfl, h1, h2, h3⟩
    have hd := srt_arr h1 h2 hp
    have hcd : cU d' = (srtU xs).flatMap encN := by rw [encN_map, ← hd]; rfl
    have hls : (srtU xs).length = ss.length := by rw [srtU_len, hlen]
    have hns : srtU xs ≠ [] := by
      intro e
      rw [e] at hls
      exact hne (List.eq_nil_of_length_eq_zero hls.symm)
    have hb3 : b.base = a.next ∧ b.dirty = [] ∧ a.next + 1 ≤ b.next ∧ look a.next b.heap = some (.cells (cU d') true) := by
      rcases h3 with ⟨rfl, rfl⟩ | ⟨g1, g2, g3, g4, g5⟩
      · exact ⟨rfl, rfl, Nat.le_refl _, by rw [hcu]; exact look_self⟩
      · exact ⟨g1, g2.trans (soilW_nil (Nat.le_refl _)), g3, g4⟩
    obtain ⟨n, h, bs, ds⟩ := b
    obtain ⟨rfl, rfl, g3, g4⟩ := hb3
    simp only at g3 g4
    refine opssim_nil ⟨rfl, hfin _ _ _ _ (.inr ⟨a.next, by rw [hls]; rfl, hns, by rw [← hcd]; exact g4, Nat.le_refl _, by omega⟩) (by omega)⟩
end
end Go.Proofs.YtlbmjpmonaekgaaAM
