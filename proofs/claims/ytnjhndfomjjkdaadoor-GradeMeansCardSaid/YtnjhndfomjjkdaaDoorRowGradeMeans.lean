import Derived.Test.YtnjhndfomjjkdaaDoorCards
import Derived.Test.YtnjhndfomjjkdaaDoorTie
import Derived.Test.YtnjhndfomjjkdaaDoorRows
import Derived.Test.YtnjhndfomjjkdaaDoorI9
import Derived.Lay
import Derived.LaidOnce
import Derived.SevenTiedAt
import Derived.MakeChecks
import Derived.Handed
import Derived.Laws.Cover2
import Derived.WalkKit
import Derived.ProofKit
import Derived.OpenShut
import Derived.ShutString
import Derived.ChangeOld
import Derived.Below
import Derived.SizedLaws
import Derived.Lib.SmallJoins
namespace Go.Proofs.YtnjhndfomjjkdaaDoor.gradeMeans
open Go.ChangeShapes Go.WideShapes Go.ChangeAt Go.RowKit Go.Joins
open Go.ChangeMaps (open_string shut_string)
set_option linter.unusedVariables false
set_option linter.unusedSimpArgs false
theorem own : ownKnob Tryd.prog.godebug = none := by kernel_rfl
theorem laidOut : laidOutB Tryd.prog = true := by kernel_rfl
theorem mixed : Tryd.prog.follows .mixedOrders = true := by kernel_rfl
theorem plain : YtnjhndfomjjkdaaDoorAM.plainNames Tryd.prog = true := by kernel_rfl
set_option maxRecDepth 100000 in
theorem lifted (os : Os) (started : os.Started) (H : Type) (enc : TypeId × Value → H) :
    ReturnsInHanded {} Tryd.checked os 6 .any (fun w args => (Rows.gradeMeansSpec.pre enc Tryd.prog Tryd.f6 Rows.gradeMeansRow.domain false w args ∧ laidMetH Tryd.prog Rows.gradeMeansRow.laid w) ∧ sizedMet enc Tryd.prog Tryd.f6 (OpenSpec.ofChange Rows.gradeMeansSpec) false w args) (Rows.gradeMeansSpec.post enc Tryd.prog Tryd.f6 false true false false) := by
  refine returnsInHanded_of_change_and (C := Tryd.checked) (X := fun w _ => laidMetH Tryd.prog Rows.gradeMeansRow.laid w) (fun _ _ _ hh h => h.of_heap hh) own started (by kernel_rfl) Tryd.func6
    (ChangeSpec.witness_at (enc := enc) (C := Tryd.checked) (os := os) (X := fun w _ => laidMetH Tryd.prog Rows.gradeMeansRow.laid w) false (World.laidAll Tryd.prog os Rows.gradeMeansRow.laid) #[.slice none 0 0, .slice none 0 0, .int .i64 0, .float .f64 0, .float .f64 0] 8 (World.laidAll_os _ _ _) (by kernel_rfl) (by kernel_rfl) (by kernel_rfl) (by kernel_rfl) (by kernel_rfl) (by rw [MakeChecks.laidMetH_plain _ _ _ (by kernel_rfl)]; exact laidMet_laidAll _ (by kernel_rfl) (by kernel_rfl))) ?_
  intro W base args ds gs before hval0 hW hcnd hsz0 hL _
  have hsz : (DataW.weightsEach Tryd.prog (Tryd.f6.params.toList ++ Rows.gradeMeansSpec.plain.varTypes Tryd.prog) (ds ++ gs)).all (· ≤ reachBytes) = true := hsz0
  have hval : ∀ (j : Nat) t v, Tryd.f6.params[j]? = some t → args[j]? = some v → Value.okWide Tryd.prog W .any base t v := hval0
  have hW' := hW
  obtain ⟨p, q, hA0, hV, rfl, hfz, hnd⟩ := hW
  have hA : DataW.TrodAll enc Tryd.prog W 0 (fun _ => true) true Tryd.f6.params.toList args.toList ds p := hA0
  rw [Tryd.params6] at hA hval hsz
  obtain ⟨v0, vs0, d0, ds0, p0, q0, hargs, rfl, rfl, h0, r0⟩ := trodAll_cons hA
  obtain ⟨v1, vs1, d1, ds1, p1, q1, rfl, rfl, rfl, h1, r1⟩ := trodAll_cons r0
  obtain ⟨v2, vs2, d2, ds2, p2, q2, rfl, rfl, rfl, h2, r2⟩ := trodAll_cons r1
  obtain ⟨v3, vs3, d3, ds3, p3, q3, rfl, rfl, rfl, h3, r3⟩ := trodAll_cons r2
  obtain ⟨v4, vs4, d4, ds4, p4, q4, rfl, rfl, rfl, h4, r4⟩ := trodAll_cons r3
  obtain ⟨rfl, rfl, rfl⟩ := trodAll_nil r4
  obtain rfl : args = #[v0, v1, v2, v3, v4] := by cases args; simp_all
  obtain ⟨rfl, rfl⟩ := trodVars_none hV
  have k0 := h0
  have lt0 : ∀ x ∈ p0, x.block < W.heap.size := by obtain ⟨m, hm⟩ := k0; exact DataW.trod_lt m _ _ _ hm
  have k1 := h1
  have lt1 : ∀ x ∈ p1, x.block < W.heap.size := by obtain ⟨m, hm⟩ := k1; exact DataW.trod_lt m _ _ _ hm
  have k2 := h2
  have lt2 : ∀ x ∈ p2, x.block < W.heap.size := by obtain ⟨m, hm⟩ := k2; exact DataW.trod_lt m _ _ _ hm
  have k3 := h3
  have lt3 : ∀ x ∈ p3, x.block < W.heap.size := by obtain ⟨m, hm⟩ := k3; exact DataW.trod_lt m _ _ _ hm
  have k4 := h4
  have lt4 : ∀ x ∈ p4, x.block < W.heap.size := by obtain ⟨m, hm⟩ := k4; exact DataW.trod_lt m _ _ _ hm
  obtain ⟨x0, u0, ρ1, A1, sr0, gr1, vr0⟩ := YtnjhndfomjjkdaaDoorAM.open_arg Tryd.underlying42 (by kernel_rfl) (by decide) (z := 1) YtnjhndfomjjkdaaDoorAM.num_keeps (YtnjhndfomjjkdaaDoorAM.opens_num) (hval 0 42 v0 rfl rfl) h0 (fun w hw => of_decide_eq_true (List.all_eq_true.1 hsz _ (DataW.weights_mem_each (j := 0) rfl rfl w hw))) (YtnjhndfomjjkdaaDoorAM.in_empty W)
  have sz0 := sr0.2
  have sr0 := sr0.1
  have in1 := gr1.inr
  have ex1 := gr1.ext
  have ll0 : x0.length ≤ 140737488355328 := by have h1 := Nat.mul_le_mul_left x0.length (show 1 ≤ Tryd.prog.bytesOf 22 by decide +kernel); have h3 : reachBytes = 0x7ffffffff000 := rfl; omega
  obtain ⟨x1, u1, ρ2, A2, sr1, gr2, vr1⟩ := YtnjhndfomjjkdaaDoorAM.open_arg Tryd.underlying32 (by kernel_rfl) (by decide) (z := 3) YtnjhndfomjjkdaaDoorAM.find_keeps (YtnjhndfomjjkdaaDoorAM.opens_find Tryd.underlying33 Tryd.underlying35 (by kernel_rfl) (by kernel_rfl) rfl) (hval 1 32 v1 rfl rfl) h1 (fun w hw => of_decide_eq_true (List.all_eq_true.1 hsz _ (DataW.weights_mem_each (j := 1) rfl rfl w hw))) in1
  have sz1 := sr1.2
  have sr1 := sr1.1
  have in2 := gr2.inr
  have ex2 := gr2.ext
  have ll1 : x1.length ≤ 140737488355328 := by have h1 := Nat.mul_le_mul_left x1.length (show 1 ≤ Tryd.prog.bytesOf 35 by decide +kernel); have h3 : reachBytes = 0x7ffffffff000 := rfl; omega
  obtain ⟨a2, rfl, rfl, rfl, w2⟩ := open_int Tryd.underlying3 (hval 2 3 v2 rfl rfl) h2
  have b2 := YtnjhndfomjjkdaaDoorAM.bd_i64 w2
  obtain ⟨a3, rfl, rfl, rfl, w3⟩ := open_float Tryd.underlying22 (hval 3 22 v3 rfl rfl) h3
  have b3 : a3 < 18446744073709551616 := by simpa [Lit.wf] using w3
  obtain ⟨a4, rfl, rfl, rfl, w4⟩ := open_float Tryd.underlying22 (hval 4 22 v4 rfl rfl) h4
  have b4 : a4 < 18446744073709551616 := by simpa [Lit.wf] using w4
  have o0 := (YtnjhndfomjjkdaaDoorAM.slice_keeps YtnjhndfomjjkdaaDoorAM.num_keeps _ _ _ _ _ _ sr0 gr2.ext.1 gr2.low)
  have o1 := sr1
  clear hA0 hval0 hsz0 hsz
  have hcall := YtnjhndfomjjkdaaDoorAM.law_calls_in mixed plain (YtnjhndfomjjkdaaDoorAM.memo_sound plain YtnjhndfomjjkdaaDoorAM.known_all) Tryd.func6 (by kernel_rfl) in2 (args := [u0, u1, .int .i64 a2, .float .f64 a3, .float .f64 a4]) (args' := [v0, v1, .int .i64 a2, .float .f64 a3, .float .f64 a4]) (.cons (vr0.mono ex2) (.cons vr1 (.cons (YtnjhndfomjjkdaaDoorAM.flat_self rfl) (.cons (YtnjhndfomjjkdaaDoorAM.flat_self rfl) (.cons (YtnjhndfomjjkdaaDoorAM.flat_self rfl) .nil))))) (YtnjhndfomjjkdaaDoorAM.law6r _ _ x0 x1 a2 a3 a4 b3 b4 ll0 ll1 _ _ (Nat.le_refl _) o0 o1)
  refine hcall.mono fun e W' ⟨he, bel⟩ => ?_
  subst he
  exact ⟨_, rfl, _, _, _, [], _, [], hW', trodAll_mk1 (shut_bool Tryd.underlying4 _), (trodAll_cons_mk (Below.trod laidOut (by kernel_rfl) (of_decide_eq_true (by kernel_rfl)) k0 bel lt0) (trodAll_cons_mk (Below.trod laidOut (by kernel_rfl) (of_decide_eq_true (by kernel_rfl)) k1 bel lt1) (trodAll_cons_mk (Below.trod laidOut (by kernel_rfl) (of_decide_eq_true (by kernel_rfl)) k2 bel lt2) (trodAll_cons_mk (Below.trod laidOut (by kernel_rfl) (of_decide_eq_true (by kernel_rfl)) k3 bel lt3) (trodAll_cons_mk (Below.trod laidOut (by kernel_rfl) (of_decide_eq_true (by kernel_rfl)) k4 bel lt4) trodAll_mk0))))), rfl, bel.frame _, fun h => by cases h⟩
theorem over : Rows.gradeMeansRow.holds Tryd.pinned (OpenSpec.ofChange Rows.gradeMeansSpec) :=
  OpenClaim.holds_of_wide 6 Tryd.f6 rfl rfl rfl rfl rfl rfl rfl ⟨rfl, rfl, rfl, rfl, rfl⟩ rfl rfl rfl rfl rfl (by kernel_rfl) Tryd.func6 (by kernel_rfl)
    (of_decide_eq_true (by kernel_rfl)) (by unfold Func.isWrapper; first | (rw [if_pos (by decide +kernel)]; kernel_rfl) | (rw [if_neg (by decide +kernel)]; exact ⟨rfl, rfl⟩))
    (fun os started H enc _ => lifted os started H enc)
theorem proved : Rows.GradeMeansSaid := over

theorem card_holds : Rows.GradeMeansCardSaid :=
  Claim7.holds_tied_plain_at .later [] [.data, .data, .data] true (true, "eaf2800d6297e16ea306c2cc00ff73b325afad4b8ee5854c3838cdfc35f92990") false
    proved (fun _ h => by cases h) (by kernel_rfl) (fun _ h => by cases h) gradeMeans_row_tie rfl ⟨rfl, rfl⟩ (by kernel_rfl) rfl
    (fun f fn hf hfn => by
      obtain rfl : f = 6 := Option.some.inj ((show Tryd.prog.funcNamed Rows.gradeMeansRow.func = some 6 by kernel_rfl).symm.trans hf) |>.symm
      obtain rfl : fn = Tryd.f6 := (Option.some.inj (Tryd.func6.symm.trans hfn)).symm
      exact ⟨by kernel_rfl, fun j t ht => by
        rw [Tryd.params6] at ht
        have hm := Array.mem_of_getElem? ht
        have hall : ([22, 3, 32, 42].all fun u => !Tryd.prog.wantsStandIn u) = true := by kernel_rfl
        have hm2 : t ∈ [22, 3, 32, 42] := (show ∀ u ∈ ([42, 32, 3, 22, 22] : List Nat), u ∈ ([22, 3, 32, 42] : List Nat) by decide) t (by simpa using hm)
        exact (show Tryd.prog.wantsStandIn t = false by simpa using List.all_eq_true.1 hall t hm2)⟩)
    (by kernel_rfl)
#print axioms card_holds
end Go.Proofs.YtnjhndfomjjkdaaDoor.gradeMeans
namespace Go.Proofs.YtnjhndfomjjkdaaDoor
/-- The row, under a short name, for the claim. -/
theorem gradeMeans_holds : Rows.GradeMeansCardSaid := gradeMeans.card_holds
end Go.Proofs.YtnjhndfomjjkdaaDoor

