import Derived.Test.YtgdmgolmeeigdaaRows
import Derived.Test.YtgdmgolmeeigdaaD13
import Derived.WalkKit
import Derived.ProofKit
import Derived.OpenShut
import Derived.ShutString
import Derived.ChangeOld
import Derived.Below
import Derived.SizedLaws
import Derived.Lib.SmallJoins
namespace Go.Proofs.Ytgdmgolmeeigdaa.deviceWhole
open Go.ChangeShapes Go.WideShapes Go.ChangeAt Go.RowKit Go.Joins
open Go.ChangeMaps (open_string shut_string)
set_option linter.unusedVariables false
set_option linter.unusedSimpArgs false
theorem own : ownKnob Try.prog.godebug = none := by kernel_rfl
theorem laidOut : laidOutB Try.prog = true := by kernel_rfl
theorem mixed : Try.prog.follows .mixedOrders = true := by kernel_rfl
theorem plain : YtgdmgolmeeigdaaAM.plainNames Try.prog = true := by kernel_rfl
set_option maxRecDepth 100000 in
theorem lifted (os : Os) (started : os.Started) (H : Type) (enc : TypeId × Value → H) :
    ReturnsInHanded {} Try.checked os 3 .any (Rows.deviceWholeSpec.pre6 enc Try.prog Try.f3 Rows.deviceWholeRow.domain false) (Rows.deviceWholeSpec.post enc Try.prog Try.f3 false true false false) := by
  refine returnsInHanded_of_change_sized (C := Try.checked) own started (by kernel_rfl) Try.func3
    (ChangeSpec.witness6 (enc := enc) (C := Try.checked) false ⟨#[], #[.int .i64 0, .slice none 0 0, .slice none 0 0], []⟩ 8 (by kernel_rfl) (by kernel_rfl) (by kernel_rfl) (by kernel_rfl)) ?_
  intro W base args ds gs before hval0 hW hcnd hsz0 _
  have hsz : (DataW.weightsEach Try.prog (Try.f3.params.toList ++ Rows.deviceWholeSpec.plain.varTypes Try.prog) (ds ++ gs)).all (· ≤ reachBytes) = true := hsz0
  have hval : ∀ (j : Nat) t v, Try.f3.params[j]? = some t → args[j]? = some v → Value.okWide Try.prog W .any base t v := hval0
  have hW' := hW
  obtain ⟨p, q, hA0, hV, rfl, hfz, hnd⟩ := hW
  have hA : DataW.TrodAll enc Try.prog W 0 (fun _ => true) true Try.f3.params.toList args.toList ds p := hA0
  rw [Try.params3] at hA hval hsz
  obtain ⟨v0, vs0, d0, ds0, p0, q0, hargs, rfl, rfl, h0, r0⟩ := trodAll_cons hA
  obtain ⟨v1, vs1, d1, ds1, p1, q1, rfl, rfl, rfl, h1, r1⟩ := trodAll_cons r0
  obtain ⟨v2, vs2, d2, ds2, p2, q2, rfl, rfl, rfl, h2, r2⟩ := trodAll_cons r1
  obtain ⟨rfl, rfl, rfl⟩ := trodAll_nil r2
  obtain rfl : args = #[v0, v1, v2] := by cases args; simp_all
  obtain ⟨rfl, rfl⟩ := trodVars_none hV
  have k0 := h0
  have lt0 : ∀ x ∈ p0, x.block < W.heap.size := by obtain ⟨m, hm⟩ := k0; exact DataW.trod_lt m _ _ _ hm
  have k1 := h1
  have lt1 : ∀ x ∈ p1, x.block < W.heap.size := by obtain ⟨m, hm⟩ := k1; exact DataW.trod_lt m _ _ _ hm
  have k2 := h2
  have lt2 : ∀ x ∈ p2, x.block < W.heap.size := by obtain ⟨m, hm⟩ := k2; exact DataW.trod_lt m _ _ _ hm
  obtain ⟨a0, rfl, rfl, rfl, w0⟩ := open_int Try.underlying3 (hval 0 3 v0 rfl rfl) h0
  have b0 := YtgdmgolmeeigdaaAM.bd_i64 w0
  obtain ⟨x1, u1, ρ1, A1, g1, in1, ex1, vr1, lv1, le1, lk1⟩ := YtgdmgolmeeigdaaAM.open_flats (fun x : Int => [.int .i64 x]) (fun x => (Lit.int .i64 x).wf = true) Try.underlying22 (by kernel_rfl) (fun x => rfl) (fun x => rfl) (fun cs n y h => by obtain ⟨x, e, _, w⟩ := DataW.trod_int Try.underlying3 h; exact ⟨x, e, w⟩) (hval 1 22 v1 rfl rfl) h1 (YtgdmgolmeeigdaaAM.in_empty W)
  obtain ⟨x2, u2, ρ2, A2, g2, in2, ex2, vr2, lv2, le2, lk2⟩ := YtgdmgolmeeigdaaAM.open_flats (fun x : Int => [.int .i64 x]) (fun x => (Lit.int .i64 x).wf = true) Try.underlying22 (by kernel_rfl) (fun x => rfl) (fun x => rfl) (fun cs n y h => by obtain ⟨x, e, _, w⟩ := DataW.trod_int Try.underlying3 h; exact ⟨x, e, w⟩) (hval 2 22 v2 rfl rfl) h2 in1
  obtain ⟨inP, exP⟩ := YtgdmgolmeeigdaaAM.in_pass in2
  have l1 := (lv1.keep le2 lk2)
  have l2 := lv2
  clear hA0 hval0 hsz0 hsz
  have hcall := YtgdmgolmeeigdaaAM.law_calls_in mixed plain (YtgdmgolmeeigdaaAM.memo_sound plain YtgdmgolmeeigdaaAM.known_all) Try.func3 (by kernel_rfl) inP (args := [.int .i64 a0, u1, u2]) (args' := [.int .i64 a0, v1, v2]) (.cons (YtgdmgolmeeigdaaAM.flat_self rfl) (.cons ((vr1.mono ex2).mono exP) (.cons (vr2.mono exP) .nil))) (YtgdmgolmeeigdaaAM.law3 a0 b0.1 _ _ x1 x2 (fun x hx => YtgdmgolmeeigdaaAM.bd_i64 (g1 x hx)) (fun x hx => YtgdmgolmeeigdaaAM.bd_i64 (g2 x hx)) _ _ rfl l1 l2)
  refine hcall.mono fun e W' ⟨he, bel⟩ => ?_
  subst he
  exact ⟨_, rfl, _, _, _, [], _, [], hW', trodAll_mk1 (shut_bool Try.underlying4 _), (trodAll_cons_mk (Below.trod laidOut (by kernel_rfl) (of_decide_eq_true (by kernel_rfl)) k0 bel lt0) (trodAll_cons_mk (Below.trod laidOut (by kernel_rfl) (of_decide_eq_true (by kernel_rfl)) k1 bel lt1) (trodAll_cons_mk (Below.trod laidOut (by kernel_rfl) (of_decide_eq_true (by kernel_rfl)) k2 bel lt2) trodAll_mk0))), rfl, bel.frame _, fun h => by cases h⟩
theorem over : Rows.deviceWholeRow.holds Try.pinned (OpenSpec.ofChange Rows.deviceWholeSpec) :=
  OpenClaim.holds_of_wide 3 Try.f3 rfl rfl rfl rfl rfl rfl rfl ⟨rfl, rfl, rfl, rfl, rfl⟩ rfl rfl rfl rfl rfl (by kernel_rfl) Try.func3 (by kernel_rfl)
    (of_decide_eq_true (by kernel_rfl)) (by unfold Func.isWrapper; first | (rw [if_pos (by decide +kernel)]; kernel_rfl) | (rw [if_neg (by decide +kernel)]; exact ⟨rfl, rfl⟩))
    (fun os started H enc _ => lifted os started H enc)
theorem proved : Rows.DeviceWholeSaid := over
#print axioms proved
end Go.Proofs.Ytgdmgolmeeigdaa.deviceWhole
namespace Go.Proofs.Ytgdmgolmeeigdaa
/-- The row, under a short name, for the claim. -/
theorem deviceWhole_holds : Rows.DeviceWholeSaid := deviceWhole.proved
end Go.Proofs.Ytgdmgolmeeigdaa

