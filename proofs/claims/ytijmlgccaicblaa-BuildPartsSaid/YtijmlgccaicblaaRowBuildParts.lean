import Derived.Test.YtijmlgccaicblaaRows
import Derived.Test.YtijmlgccaicblaaC8
import Derived.WalkKit
import Derived.ProofKit
import Derived.OpenShut
import Derived.ShutString
import Derived.ChangeOld
import Derived.Below
import Derived.SizedLaws
import Derived.Lib.SmallJoins
namespace Go.Proofs.Ytijmlgccaicblaa.buildParts
open Go.ChangeShapes Go.WideShapes Go.ChangeAt Go.RowKit Go.Joins
open Go.ChangeMaps (open_string shut_string)
set_option linter.unusedVariables false
set_option linter.unusedSimpArgs false
theorem own : ownKnob Try.prog.godebug = none := by kernel_rfl
theorem laidOut : laidOutB Try.prog = true := by kernel_rfl
theorem mixed : Try.prog.follows .mixedOrders = true := by kernel_rfl
theorem plain : YtijmlgccaicblaaAM.plainNames Try.prog = true := by kernel_rfl
set_option maxRecDepth 100000 in
theorem lifted (os : Os) (started : os.Started) (H : Type) (enc : TypeId × Value → H) :
    ReturnsInHanded {} Try.checked os 5 .any (Rows.buildPartsSpec.pre6 enc Try.prog Try.f5 Rows.buildPartsRow.domain false) (Rows.buildPartsSpec.post enc Try.prog Try.f5 false true false false) := by
  refine returnsInHanded_of_change_sized (C := Try.checked) own started (by kernel_rfl) Try.func5
    (ChangeSpec.witness6 (enc := enc) (C := Try.checked) false ⟨#[], #[.slice none 0 0, .int .i64 0, .int .i64 0, .slice none 0 0, .slice none 0 0], []⟩ 8 (by kernel_rfl) (by kernel_rfl) (by kernel_rfl) (by kernel_rfl)) ?_
  intro W base args ds gs before hval0 hW hcnd hsz0 _
  have hsz : (DataW.weightsEach Try.prog (Try.f5.params.toList ++ Rows.buildPartsSpec.plain.varTypes Try.prog) (ds ++ gs)).all (· ≤ reachBytes) = true := hsz0
  have hval : ∀ (j : Nat) t v, Try.f5.params[j]? = some t → args[j]? = some v → Value.okWide Try.prog W .any base t v := hval0
  have hW' := hW
  obtain ⟨p, q, hA0, hV, rfl, hfz, hnd⟩ := hW
  have hA : DataW.TrodAll enc Try.prog W 0 (fun _ => true) true Try.f5.params.toList args.toList ds p := hA0
  rw [Try.params5] at hA hval hsz
  obtain ⟨v0, vs0, d0, ds0, p0, q0, hargs, rfl, rfl, h0, r0⟩ := trodAll_cons hA
  obtain ⟨v1, vs1, d1, ds1, p1, q1, rfl, rfl, rfl, h1, r1⟩ := trodAll_cons r0
  obtain ⟨v2, vs2, d2, ds2, p2, q2, rfl, rfl, rfl, h2, r2⟩ := trodAll_cons r1
  obtain ⟨v3, vs3, d3, ds3, p3, q3, rfl, rfl, rfl, h3, r3⟩ := trodAll_cons r2
  obtain ⟨v4, vs4, d4, ds4, p4, q4, rfl, rfl, rfl, h4, r4⟩ := trodAll_cons r3
  obtain ⟨rfl, rfl, rfl⟩ := trodAll_nil r4
  obtain rfl : args = #[v0, v1, v2, v3, v4] := by cases args; simp_all
  obtain ⟨rfl, rfl⟩ := trodVars_none hV
  have k0 := h0
  have lt0 : ∀ x ∈ p0, x.block < W.heap.size := by obtain ⟨m, hm⟩ := k0; exact DataW.trod_lt m _ _ _ hm
  have k1 := h1
  have lt1 : ∀ x ∈ p1, x.block < W.heap.size := by obtain ⟨m, hm⟩ := k1; exact DataW.trod_lt m _ _ _ hm
  have k2 := h2
  have lt2 : ∀ x ∈ p2, x.block < W.heap.size := by obtain ⟨m, hm⟩ := k2; exact DataW.trod_lt m _ _ _ hm
  have k3 := h3
  have lt3 : ∀ x ∈ p3, x.block < W.heap.size := by obtain ⟨m, hm⟩ := k3; exact DataW.trod_lt m _ _ _ hm
  have k4 := h4
  have lt4 : ∀ x ∈ p4, x.block < W.heap.size := by obtain ⟨m, hm⟩ := k4; exact DataW.trod_lt m _ _ _ hm
  obtain ⟨x0, u0, ρ1, A1, sr0, gr1, vr0⟩ := YtijmlgccaicblaaAM.open_arg Try.underlying25 (by kernel_rfl) (by decide) (z := 1) YtijmlgccaicblaaAM.n_keeps (YtijmlgccaicblaaAM.opens_n) (hval 0 25 v0 rfl rfl) h0 (fun w hw => of_decide_eq_true (List.all_eq_true.1 hsz _ (DataW.weights_mem_each (j := 0) rfl rfl w hw))) (YtijmlgccaicblaaAM.in_empty W)
  have sz0 := sr0.2
  have sr0 := sr0.1
  have in1 := gr1.inr
  have ex1 := gr1.ext
  have ll0 : x0.length ≤ 140737488355328 := by have h1 := Nat.mul_le_mul_left x0.length (show 1 ≤ Try.prog.bytesOf 3 by decide +kernel); have h3 : reachBytes = 0x7ffffffff000 := rfl; omega
  obtain ⟨a1, rfl, rfl, rfl, w1⟩ := open_int Try.underlying3 (hval 1 3 v1 rfl rfl) h1
  have b1 := YtijmlgccaicblaaAM.bd_i64 w1
  obtain ⟨a2, rfl, rfl, rfl, w2⟩ := open_int Try.underlying3 (hval 2 3 v2 rfl rfl) h2
  have b2 := YtijmlgccaicblaaAM.bd_i64 w2
  obtain ⟨x3, u3, ρ2, A2, sr3, gr2, vr3⟩ := YtijmlgccaicblaaAM.open_arg Try.underlying31 (by kernel_rfl) (by decide) (z := 5) YtijmlgccaicblaaAM.it_keeps (YtijmlgccaicblaaAM.opens_it Try.underlying42 (by kernel_rfl) (by kernel_rfl) rfl) (hval 3 31 v3 rfl rfl) h3 (fun w hw => of_decide_eq_true (List.all_eq_true.1 hsz _ (DataW.weights_mem_each (j := 3) rfl rfl w hw))) in1
  have sz3 := sr3.2
  have sr3 := sr3.1
  have in2 := gr2.inr
  have ex2 := gr2.ext
  have ll3 : x3.length ≤ 140737488355328 := by have h1 := Nat.mul_le_mul_left x3.length (show 1 ≤ Try.prog.bytesOf 42 by decide +kernel); have h3 : reachBytes = 0x7ffffffff000 := rfl; omega
  obtain ⟨x4, u4, ρ3, A3, sr4, gr3, vr4⟩ := YtijmlgccaicblaaAM.open_arg Try.underlying48 (by kernel_rfl) (by decide) (z := 2) YtijmlgccaicblaaAM.fk_keeps (YtijmlgccaicblaaAM.opens_fk Try.underlying50 (by kernel_rfl) (by kernel_rfl) rfl) (hval 4 48 v4 rfl rfl) h4 (fun w hw => of_decide_eq_true (List.all_eq_true.1 hsz _ (DataW.weights_mem_each (j := 4) rfl rfl w hw))) in2
  have sz4 := sr4.2
  have sr4 := sr4.1
  have in3 := gr3.inr
  have ex3 := gr3.ext
  have ll4 : x4.length ≤ 140737488355328 := by have h1 := Nat.mul_le_mul_left x4.length (show 1 ≤ Try.prog.bytesOf 50 by decide +kernel); have h3 : reachBytes = 0x7ffffffff000 := rfl; omega
  obtain ⟨inP, exP⟩ := YtijmlgccaicblaaAM.in_pass in3
  have o0 := (YtijmlgccaicblaaAM.slice_keeps YtijmlgccaicblaaAM.n_keeps _ _ _ _ _ _ (YtijmlgccaicblaaAM.slice_keeps YtijmlgccaicblaaAM.n_keeps _ _ _ _ _ _ sr0 gr2.ext.1 gr2.low) gr3.ext.1 gr3.low)
  have o3 := (YtijmlgccaicblaaAM.slice_keeps YtijmlgccaicblaaAM.it_keeps _ _ _ _ _ _ sr3 gr3.ext.1 gr3.low)
  have o4 := sr4
  clear hA0 hval0 hsz0 hsz
  have hcall := YtijmlgccaicblaaAM.law_calls_in mixed plain (YtijmlgccaicblaaAM.memo_sound plain YtijmlgccaicblaaAM.known_all) Try.func5 (by kernel_rfl) inP (args := [u0, .int .i64 a1, .int .i64 a2, u3, u4]) (args' := [v0, .int .i64 a1, .int .i64 a2, v3, v4]) (.cons (((vr0.mono ex2).mono ex3).mono exP) (.cons (YtijmlgccaicblaaAM.flat_self rfl) (.cons (YtijmlgccaicblaaAM.flat_self rfl) (.cons ((vr3.mono ex3).mono exP) (.cons (vr4.mono exP) .nil))))) (YtijmlgccaicblaaAM.law5r a1 a2 _ _ _ x0 x3 x4 ll0 ll3 ll4 b1 _ _ _ _ (Nat.le_succ_of_le (Nat.le_refl _)) o0 (Nat.le_succ_of_le (Nat.le_refl _)) o3 (Nat.le_succ_of_le (Nat.le_refl _)) o4)
  refine hcall.mono fun e W' ⟨he, bel⟩ => ?_
  subst he
  exact ⟨_, rfl, _, _, _, [], _, [], hW', trodAll_mk1 (shut_bool Try.underlying4 _), (trodAll_cons_mk (Below.trod laidOut (by kernel_rfl) (of_decide_eq_true (by kernel_rfl)) k0 bel lt0) (trodAll_cons_mk (Below.trod laidOut (by kernel_rfl) (of_decide_eq_true (by kernel_rfl)) k1 bel lt1) (trodAll_cons_mk (Below.trod laidOut (by kernel_rfl) (of_decide_eq_true (by kernel_rfl)) k2 bel lt2) (trodAll_cons_mk (Below.trod laidOut (by kernel_rfl) (of_decide_eq_true (by kernel_rfl)) k3 bel lt3) (trodAll_cons_mk (Below.trod laidOut (by kernel_rfl) (of_decide_eq_true (by kernel_rfl)) k4 bel lt4) trodAll_mk0))))), rfl, bel.frame _, fun h => by cases h⟩
theorem over : Rows.buildPartsRow.holds Try.pinned (OpenSpec.ofChange Rows.buildPartsSpec) :=
  OpenClaim.holds_of_wide 5 Try.f5 rfl rfl rfl rfl rfl rfl rfl ⟨rfl, rfl, rfl, rfl, rfl⟩ rfl rfl rfl rfl rfl (by kernel_rfl) Try.func5 (by kernel_rfl)
    (of_decide_eq_true (by kernel_rfl)) (by unfold Func.isWrapper; first | (rw [if_pos (by decide +kernel)]; kernel_rfl) | (rw [if_neg (by decide +kernel)]; exact ⟨rfl, rfl⟩))
    (fun os started H enc _ => lifted os started H enc)
theorem proved : Rows.BuildPartsSaid := over

#print axioms proved
end Go.Proofs.Ytijmlgccaicblaa.buildParts
namespace Go.Proofs.Ytijmlgccaicblaa
/-- The row, under a short name, for the claim. -/
theorem buildParts_holds : Rows.BuildPartsSaid := buildParts.proved
end Go.Proofs.Ytijmlgccaicblaa

