import Derived.Test.YtlbmjpmonaekgaaRows
import Derived.Test.YtlbmjpmonaekgaaW5
import Derived.WalkKit
import Derived.ProofKit
import Derived.OpenShut
import Derived.ShutString
import Derived.ChangeOld
import Derived.Below
import Derived.SizedLaws
import Derived.Lib.SmallJoins
namespace Go.Proofs.Ytlbmjpmonaekgaa.allocNext
open Go.ChangeShapes Go.WideShapes Go.ChangeAt Go.RowKit Go.Joins
open Go.ChangeMaps (open_string shut_string)
set_option linter.unusedVariables false
set_option linter.unusedSimpArgs false
theorem own : ownKnob Try.prog.godebug = none := by kernel_rfl
theorem laidOut : laidOutB Try.prog = true := by kernel_rfl
theorem mixed : Try.prog.follows .mixedOrders = true := by kernel_rfl
theorem plain : YtlbmjpmonaekgaaAM.plainNames Try.prog = true := by kernel_rfl
set_option maxRecDepth 100000 in
theorem lifted (os : Os) (started : os.Started) (H : Type) (enc : TypeId × Value → H) :
    ReturnsInHanded {} Try.checked os 6 .any (Rows.allocNextSpec.pre6 enc Try.prog Try.f6 Rows.allocNextRow.domain false) (Rows.allocNextSpec.post enc Try.prog Try.f6 false true false false) := by
  refine returnsInHanded_of_change_sized (C := Try.checked) own started (by kernel_rfl) Try.func6
    (ChangeSpec.witness6 (enc := enc) (C := Try.checked) false ⟨#[], #[.slice none 0 0, .slice none 0 0, .slice none 0 0], []⟩ 8 (by kernel_rfl) (by kernel_rfl) (by kernel_rfl) (by kernel_rfl)) ?_
  intro W base args ds gs before hval0 hW hcnd hsz0 _
  have hsz : (DataW.weightsEach Try.prog (Try.f6.params.toList ++ Rows.allocNextSpec.plain.varTypes Try.prog) (ds ++ gs)).all (· ≤ reachBytes) = true := hsz0
  have hval : ∀ (j : Nat) t v, Try.f6.params[j]? = some t → args[j]? = some v → Value.okWide Try.prog W .any base t v := hval0
  have hW' := hW
  obtain ⟨p, q, hA0, hV, rfl, hfz, hnd⟩ := hW
  have hA : DataW.TrodAll enc Try.prog W 0 (fun _ => true) true Try.f6.params.toList args.toList ds p := hA0
  rw [Try.params6] at hA hval hsz
  obtain ⟨v0, vs0, d0, ds0, p0, q0, hargs, rfl, rfl, h0, r0⟩ := trodAll_cons hA
  obtain ⟨v1, vs1, d1, ds1, p1, q1, rfl, rfl, rfl, h1, r1⟩ := trodAll_cons r0
  obtain ⟨v2, vs2, d2, ds2, p2, q2, rfl, rfl, rfl, h2, r2⟩ := trodAll_cons r1
  obtain ⟨rfl, rfl, rfl⟩ := trodAll_nil r2
  obtain rfl : args = #[v0, v1, v2] := by cases args; simp_all
  obtain ⟨rfl, rfl⟩ := trodVars_none hV
  have k0 := h0
  have lt0 : ∀ x ∈ p0, x.block < W.heap.size := by obtain ⟨m, hm⟩ := k0; exact DataW.trod_lt m _ _ _ hm
  have k1 := h1
  have lt1 : ∀ x ∈ p1, x.block < W.heap.size := by obtain ⟨m, hm⟩ := k1; exact DataW.trod_lt m _ _ _ hm
  have k2 := h2
  have lt2 : ∀ x ∈ p2, x.block < W.heap.size := by obtain ⟨m, hm⟩ := k2; exact DataW.trod_lt m _ _ _ hm
  obtain ⟨x0, u0, ρ1, A1, sr0, gr1, vr0⟩ := YtlbmjpmonaekgaaAM.open_arg Try.underlying22 (by kernel_rfl) (by decide) (z := 1) YtlbmjpmonaekgaaAM.b_keeps (YtlbmjpmonaekgaaAM.opens_b) (hval 0 22 v0 rfl rfl) h0 (fun w hw => of_decide_eq_true (List.all_eq_true.1 hsz _ (DataW.weights_mem_each (j := 0) rfl rfl w hw))) (YtlbmjpmonaekgaaAM.in_empty W)
  have sz0 := sr0.2
  have sr0 := sr0.1
  have in1 := gr1.inr
  have ex1 := gr1.ext
  have ll0 : x0.length ≤ 140737488355328 := by have h1 := Nat.mul_le_mul_left x0.length (show 1 ≤ Try.prog.bytesOf 4 by decide +kernel); have h3 : reachBytes = 0x7ffffffff000 := rfl; omega
  obtain ⟨x1, u1, ρ2, A2, sr1, gr2, vr1⟩ := YtlbmjpmonaekgaaAM.open_arg Try.underlying23 (by kernel_rfl) (by decide) (z := 1) YtlbmjpmonaekgaaAM.n_keeps (YtlbmjpmonaekgaaAM.opens_n) (hval 1 23 v1 rfl rfl) h1 (fun w hw => of_decide_eq_true (List.all_eq_true.1 hsz _ (DataW.weights_mem_each (j := 1) rfl rfl w hw))) in1
  have sz1 := sr1.2
  have sr1 := sr1.1
  have in2 := gr2.inr
  have ex2 := gr2.ext
  have ll1 : x1.length ≤ 140737488355328 := by have h1 := Nat.mul_le_mul_left x1.length (show 1 ≤ Try.prog.bytesOf 2 by decide +kernel); have h3 : reachBytes = 0x7ffffffff000 := rfl; omega
  obtain ⟨x2, u2, ρ3, A3, sr2, gr3, vr2⟩ := YtlbmjpmonaekgaaAM.open_arg Try.underlying23 (by kernel_rfl) (by decide) (z := 1) YtlbmjpmonaekgaaAM.n_keeps (YtlbmjpmonaekgaaAM.opens_n) (hval 2 23 v2 rfl rfl) h2 (fun w hw => of_decide_eq_true (List.all_eq_true.1 hsz _ (DataW.weights_mem_each (j := 2) rfl rfl w hw))) in2
  have sz2 := sr2.2
  have sr2 := sr2.1
  have in3 := gr3.inr
  have ex3 := gr3.ext
  have ll2 : x2.length ≤ 140737488355328 := by have h1 := Nat.mul_le_mul_left x2.length (show 1 ≤ Try.prog.bytesOf 2 by decide +kernel); have h3 : reachBytes = 0x7ffffffff000 := rfl; omega
  obtain ⟨inP, exP⟩ := YtlbmjpmonaekgaaAM.in_pass in3
  have o0 := (YtlbmjpmonaekgaaAM.slice_keeps YtlbmjpmonaekgaaAM.b_keeps _ _ _ _ _ _ (YtlbmjpmonaekgaaAM.slice_keeps YtlbmjpmonaekgaaAM.b_keeps _ _ _ _ _ _ sr0 gr2.ext.1 gr2.low) gr3.ext.1 gr3.low)
  have o1 := (YtlbmjpmonaekgaaAM.slice_keeps YtlbmjpmonaekgaaAM.n_keeps _ _ _ _ _ _ sr1 gr3.ext.1 gr3.low)
  have o2 := sr2
  clear hA0 hval0 hsz0 hsz
  have hcall := YtlbmjpmonaekgaaAM.law_calls_in mixed plain YtlbmjpmonaekgaaAM.clone_ok Try.func6 (by kernel_rfl) inP (args := [u0, u1, u2]) (args' := [v0, v1, v2]) (.cons (((vr0.mono ex2).mono ex3).mono exP) (.cons ((vr1.mono ex3).mono exP) (.cons (vr2.mono exP) .nil))) (YtlbmjpmonaekgaaAM.law6r _ _ _ x0 x1 x2 _ _ _ _ (Nat.le_succ_of_le (Nat.le_refl _)) o0 (Nat.le_succ_of_le (Nat.le_refl _)) o1 (Nat.le_succ_of_le (Nat.le_refl _)) o2)
  refine hcall.mono fun e W' ⟨he, bel⟩ => ?_
  subst he
  exact ⟨_, rfl, _, _, _, [], _, [], hW', trodAll_mk1 (shut_bool Try.underlying4 _), (trodAll_cons_mk (Below.trod laidOut (by kernel_rfl) (of_decide_eq_true (by kernel_rfl)) k0 bel lt0) (trodAll_cons_mk (Below.trod laidOut (by kernel_rfl) (of_decide_eq_true (by kernel_rfl)) k1 bel lt1) (trodAll_cons_mk (Below.trod laidOut (by kernel_rfl) (of_decide_eq_true (by kernel_rfl)) k2 bel lt2) trodAll_mk0))), rfl, bel.frame _, fun h => by cases h⟩
theorem over : Rows.allocNextRow.holds Try.pinned (OpenSpec.ofChange Rows.allocNextSpec) :=
  OpenClaim.holds_of_wide 6 Try.f6 rfl rfl rfl rfl rfl rfl rfl ⟨rfl, rfl, rfl, rfl, rfl⟩ rfl rfl rfl rfl rfl (by kernel_rfl) Try.func6 (by kernel_rfl)
    (of_decide_eq_true (by kernel_rfl)) (by unfold Func.isWrapper; first | (rw [if_pos (by decide +kernel)]; kernel_rfl) | (rw [if_neg (by decide +kernel)]; exact ⟨rfl, rfl⟩))
    (fun os started H enc _ => lifted os started H enc)
theorem proved : Rows.AllocNextSaid := over

#print axioms proved
end Go.Proofs.Ytlbmjpmonaekgaa.allocNext
namespace Go.Proofs.Ytlbmjpmonaekgaa
/-- The row, under a short name, for the claim. -/
theorem allocNext_holds : Rows.AllocNextSaid := allocNext.proved
end Go.Proofs.Ytlbmjpmonaekgaa

