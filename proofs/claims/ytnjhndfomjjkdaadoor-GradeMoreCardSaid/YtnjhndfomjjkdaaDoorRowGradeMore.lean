import Derived.Test.YtnjhndfomjjkdaaDoorCards
import Derived.Test.YtnjhndfomjjkdaaDoorTie
import Derived.Test.YtnjhndfomjjkdaaDoorRows
import Derived.Test.YtnjhndfomjjkdaaDoorG13
import Derived.Lay
import Derived.LaidOnce
import Derived.SevenTiedAt
import Derived.MakeChecks
import Derived.Handed
import Derived.Laws.Cover2
import Derived.WalkKit
import Derived.ProofKit
import Derived.OpenShut
import Derived.ShutString
import Derived.ChangeOld
import Derived.Below
import Derived.SizedLaws
import Derived.Lib.SmallJoins
namespace Go.Proofs.YtnjhndfomjjkdaaDoor.gradeMore
open Go.ChangeShapes Go.WideShapes Go.ChangeAt Go.RowKit Go.Joins
open Go.ChangeMaps (open_string shut_string)
set_option linter.unusedVariables false
set_option linter.unusedSimpArgs false
theorem own : ownKnob Tryd.prog.godebug = none := by kernel_rfl
theorem laidOut : laidOutB Tryd.prog = true := by kernel_rfl
theorem mixed : Tryd.prog.follows .mixedOrders = true := by kernel_rfl
theorem plain : YtnjhndfomjjkdaaDoorAM.plainNames Tryd.prog = true := by kernel_rfl
set_option maxRecDepth 100000 in
theorem lifted (os : Os) (started : os.Started) (H : Type) (enc : TypeId × Value → H) :
    ReturnsInHanded {} Tryd.checked os 5 .any (fun w args => (Rows.gradeMoreSpec.pre enc Tryd.prog Tryd.f5 Rows.gradeMoreRow.domain false w args ∧ laidMetH Tryd.prog Rows.gradeMoreRow.laid w) ∧ sizedMet enc Tryd.prog Tryd.f5 (OpenSpec.ofChange Rows.gradeMoreSpec) false w args) (Rows.gradeMoreSpec.post enc Tryd.prog Tryd.f5 false true false false) := by
  refine returnsInHanded_of_change_and (C := Tryd.checked) (X := fun w _ => laidMetH Tryd.prog Rows.gradeMoreRow.laid w) (fun _ _ _ hh h => h.of_heap hh) own started (by kernel_rfl) Tryd.func5
    (ChangeSpec.witness_at (enc := enc) (C := Tryd.checked) (os := os) (X := fun w _ => laidMetH Tryd.prog Rows.gradeMoreRow.laid w) false (World.laidAll Tryd.prog os Rows.gradeMoreRow.laid) #[.slice none 0 0, .agg #[.int .i64 0, .int .u32 0, .int .u32 0], .int .i64 0, .int .i64 0] 8 (World.laidAll_os _ _ _) (by kernel_rfl) (by kernel_rfl) (by kernel_rfl) (by kernel_rfl) (by kernel_rfl) (by rw [MakeChecks.laidMetH_plain _ _ _ (by kernel_rfl)]; exact laidMet_laidAll _ (by kernel_rfl) (by kernel_rfl))) ?_
  intro W base args ds gs before hval0 hW hcnd hsz0 hL _
  have hsz : (DataW.weightsEach Tryd.prog (Tryd.f5.params.toList ++ Rows.gradeMoreSpec.plain.varTypes Tryd.prog) (ds ++ gs)).all (· ≤ reachBytes) = true := hsz0
  have hval : ∀ (j : Nat) t v, Tryd.f5.params[j]? = some t → args[j]? = some v → Value.okWide Tryd.prog W .any base t v := hval0
  have hW' := hW
  obtain ⟨p, q, hA0, hV, rfl, hfz, hnd⟩ := hW
  have hA : DataW.TrodAll enc Tryd.prog W 0 (fun _ => true) true Tryd.f5.params.toList args.toList ds p := hA0
  rw [Tryd.params5] at hA hval hsz
  obtain ⟨v0, vs0, d0, ds0, p0, q0, hargs, rfl, rfl, h0, r0⟩ := trodAll_cons hA
  obtain ⟨v1, vs1, d1, ds1, p1, q1, rfl, rfl, rfl, h1, r1⟩ := trodAll_cons r0
  obtain ⟨v2, vs2, d2, ds2, p2, q2, rfl, rfl, rfl, h2, r2⟩ := trodAll_cons r1
  obtain ⟨v3, vs3, d3, ds3, p3, q3, rfl, rfl, rfl, h3, r3⟩ := trodAll_cons r2
  obtain ⟨rfl, rfl, rfl⟩ := trodAll_nil r3
  obtain rfl : args = #[v0, v1, v2, v3] := by cases args; simp_all
  obtain ⟨rfl, rfl⟩ := trodVars_none hV
  have k0 := h0
  have lt0 : ∀ x ∈ p0, x.block < W.heap.size := by obtain ⟨m, hm⟩ := k0; exact DataW.trod_lt m _ _ _ hm
  have k1 := h1
  have lt1 : ∀ x ∈ p1, x.block < W.heap.size := by obtain ⟨m, hm⟩ := k1; exact DataW.trod_lt m _ _ _ hm
  have k2 := h2
  have lt2 : ∀ x ∈ p2, x.block < W.heap.size := by obtain ⟨m, hm⟩ := k2; exact DataW.trod_lt m _ _ _ hm
  have k3 := h3
  have lt3 : ∀ x ∈ p3, x.block < W.heap.size := by obtain ⟨m, hm⟩ := k3; exact DataW.trod_lt m _ _ _ hm
  obtain ⟨x0, u0, ρ1, A1, sr0, gr1, vr0⟩ := YtnjhndfomjjkdaaDoorAM.open_arg Tryd.underlying32 (by kernel_rfl) (by decide) (z := 3) YtnjhndfomjjkdaaDoorAM.find_keeps (YtnjhndfomjjkdaaDoorAM.opens_find Tryd.underlying33 Tryd.underlying35 (by kernel_rfl) (by kernel_rfl) rfl) (hval 0 32 v0 rfl rfl) h0 (fun w hw => of_decide_eq_true (List.all_eq_true.1 hsz _ (DataW.weights_mem_each (j := 0) rfl rfl w hw))) (YtnjhndfomjjkdaaDoorAM.in_empty W)
  have sz0 := sr0.2
  have sr0 := sr0.1
  have in1 := gr1.inr
  have ex1 := gr1.ext
  have ll0 : x0.length ≤ 140737488355328 := by have h1 := Nat.mul_le_mul_left x0.length (show 1 ≤ Tryd.prog.bytesOf 35 by decide +kernel); have h3 : reachBytes = 0x7ffffffff000 := rfl; omega
  obtain ⟨cs1, rfl, hl1, hf1⟩ := YtnjhndfomjjkdaaDoorAM.open_agg Tryd.underlying35 (by kernel_rfl) (by kernel_rfl) (hval 1 35 v1 rfl rfl) h1
  obtain ⟨c1_0, c1_1, c1_2, rfl⟩ := YtnjhndfomjjkdaaDoorAM.list3 (hl1.trans (by kernel_rfl))
  obtain ⟨g1_0, rfl, w1_0⟩ := YtnjhndfomjjkdaaDoorAM.one_int' Tryd.underlying3 (hf1 0 _ _ rfl rfl)
  have b1_0 := YtnjhndfomjjkdaaDoorAM.bd_i64 w1_0
  obtain ⟨g1_1, rfl, w1_1⟩ := YtnjhndfomjjkdaaDoorAM.one_int' Tryd.underlying33 (hf1 1 _ _ rfl rfl)
  have b1_1 := YtnjhndfomjjkdaaDoorAM.bd_u32 w1_1
  obtain ⟨g1_2, rfl, w1_2⟩ := YtnjhndfomjjkdaaDoorAM.one_int' Tryd.underlying33 (hf1 2 _ _ rfl rfl)
  have b1_2 := YtnjhndfomjjkdaaDoorAM.bd_u32 w1_2
  obtain ⟨a2, rfl, rfl, rfl, w2⟩ := open_int Tryd.underlying3 (hval 2 3 v2 rfl rfl) h2
  have b2 := YtnjhndfomjjkdaaDoorAM.bd_i64 w2
  obtain ⟨a3, rfl, rfl, rfl, w3⟩ := open_int Tryd.underlying3 (hval 3 3 v3 rfl rfl) h3
  have b3 := YtnjhndfomjjkdaaDoorAM.bd_i64 w3
  have o0 := sr0
  clear hA0 hval0 hsz0 hsz
  have hcall := YtnjhndfomjjkdaaDoorAM.law_calls_in mixed plain (YtnjhndfomjjkdaaDoorAM.memo_sound plain YtnjhndfomjjkdaaDoorAM.known_all) Tryd.func5 (by kernel_rfl) in1 (args := [u0, .agg #[.int .i64 g1_0, .int .u32 g1_1, .int .u32 g1_2], .int .i64 a2, .int .i64 a3]) (args' := [v0, .agg #[.int .i64 g1_0, .int .u32 g1_1, .int .u32 g1_2], .int .i64 a2, .int .i64 a3]) (.cons vr0 (.cons (YtnjhndfomjjkdaaDoorAM.flat_self rfl) (.cons (YtnjhndfomjjkdaaDoorAM.flat_self rfl) (.cons (YtnjhndfomjjkdaaDoorAM.flat_self rfl) .nil)))) (YtnjhndfomjjkdaaDoorAM.law5r _ x0 g1_0 g1_1 g1_2 a2 a3 ll0 _ _ (Nat.le_refl _) o0)
  refine hcall.mono fun e W' ⟨he, bel⟩ => ?_
  subst he
  exact ⟨_, rfl, _, _, _, [], _, [], hW', trodAll_mk1 (shut_bool Tryd.underlying4 _), (trodAll_cons_mk (Below.trod laidOut (by kernel_rfl) (of_decide_eq_true (by kernel_rfl)) k0 bel lt0) (trodAll_cons_mk (Below.trod laidOut (by kernel_rfl) (of_decide_eq_true (by kernel_rfl)) k1 bel lt1) (trodAll_cons_mk (Below.trod laidOut (by kernel_rfl) (of_decide_eq_true (by kernel_rfl)) k2 bel lt2) (trodAll_cons_mk (Below.trod laidOut (by kernel_rfl) (of_decide_eq_true (by kernel_rfl)) k3 bel lt3) trodAll_mk0)))), rfl, bel.frame _, fun h => by cases h⟩
theorem over : Rows.gradeMoreRow.holds Tryd.pinned (OpenSpec.ofChange Rows.gradeMoreSpec) :=
  OpenClaim.holds_of_wide 5 Tryd.f5 rfl rfl rfl rfl rfl rfl rfl ⟨rfl, rfl, rfl, rfl, rfl⟩ rfl rfl rfl rfl rfl (by kernel_rfl) Tryd.func5 (by kernel_rfl)
    (of_decide_eq_true (by kernel_rfl)) (by unfold Func.isWrapper; first | (rw [if_pos (by decide +kernel)]; kernel_rfl) | (rw [if_neg (by decide +kernel)]; exact ⟨rfl, rfl⟩))
    (fun os started H enc _ => lifted os started H enc)
theorem proved : Rows.GradeMoreSaid := over

theorem card_holds : Rows.GradeMoreCardSaid :=
  Claim7.holds_tied_plain_at .later [] [.data, .data, .data] true (true, "eaf2800d6297e16ea306c2cc00ff73b325afad4b8ee5854c3838cdfc35f92990") false
    proved (fun _ h => by cases h) (by kernel_rfl) (fun _ h => by cases h) gradeMore_row_tie rfl ⟨rfl, rfl⟩ (by kernel_rfl) rfl
    (fun f fn hf hfn => by
      obtain rfl : f = 5 := Option.some.inj ((show Tryd.prog.funcNamed Rows.gradeMoreRow.func = some 5 by kernel_rfl).symm.trans hf) |>.symm
      obtain rfl : fn = Tryd.f5 := (Option.some.inj (Tryd.func5.symm.trans hfn)).symm
      exact ⟨by kernel_rfl, fun j t ht => by
        rw [Tryd.params5] at ht
        have hm := Array.mem_of_getElem? ht
        have hall : ([3, 32, 35].all fun u => !Tryd.prog.wantsStandIn u) = true := by kernel_rfl
        have hm2 : t ∈ [3, 32, 35] := by simp at hm; first | (rcases hm with rfl | rfl | rfl <;> decide) | (rcases hm with rfl | rfl | rfl | rfl <;> decide)
        exact (show Tryd.prog.wantsStandIn t = false by simpa using List.all_eq_true.1 hall t hm2)⟩)
    (by kernel_rfl)
#print axioms card_holds
end Go.Proofs.YtnjhndfomjjkdaaDoor.gradeMore
namespace Go.Proofs.YtnjhndfomjjkdaaDoor
/-- The row, under a short name, for the claim. -/
theorem gradeMore_holds : Rows.GradeMoreCardSaid := gradeMore.card_holds
end Go.Proofs.YtnjhndfomjjkdaaDoor

