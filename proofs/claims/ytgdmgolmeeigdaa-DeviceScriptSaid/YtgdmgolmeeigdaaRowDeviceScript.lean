import Derived.Test.YtgdmgolmeeigdaaRows
import Derived.Test.YtgdmgolmeeigdaaD24
import Derived.WalkKit
import Derived.ProofKit
import Derived.OpenShut
import Derived.ShutString
import Derived.ChangeOld
import Derived.Below
import Derived.SizedLaws
import Derived.Lib.SmallJoins
namespace Go.Proofs.Ytgdmgolmeeigdaa.deviceScript
open Go.ChangeShapes Go.WideShapes Go.ChangeAt Go.RowKit Go.Joins
open Go.ChangeMaps (open_string shut_string)
set_option linter.unusedVariables false
set_option linter.unusedSimpArgs false
theorem own : ownKnob Try.prog.godebug = none := by kernel_rfl
theorem laidOut : laidOutB Try.prog = true := by kernel_rfl
theorem mixed : Try.prog.follows .mixedOrders = true := by kernel_rfl
theorem plain : YtgdmgolmeeigdaaAM.plainNames Try.prog = true := by kernel_rfl
set_option maxRecDepth 100000 in
theorem lifted (os : Os) (started : os.Started) (H : Type) (enc : TypeId × Value → H) :
    ReturnsInHanded {} Try.checked os 7 .any (Rows.deviceScriptSpec.pre6 enc Try.prog Try.f7 Rows.deviceScriptRow.domain false) (Rows.deviceScriptSpec.post enc Try.prog Try.f7 false true false false) := by
  refine returnsInHanded_of_change_sized (C := Try.checked) own started (by kernel_rfl) Try.func7
    (ChangeSpec.witness6 (enc := enc) (C := Try.checked) false ⟨#[], #[.int .i64 0, .int .i64 0, .string ByteArray.empty, .slice none 0 0], []⟩ 8 (by kernel_rfl) (by kernel_rfl) (by kernel_rfl) (by kernel_rfl)) ?_
  intro W base args ds gs before hval0 hW hcnd hsz0 _
  have hsz : (DataW.weightsEach Try.prog (Try.f7.params.toList ++ Rows.deviceScriptSpec.plain.varTypes Try.prog) (ds ++ gs)).all (· ≤ reachBytes) = true := hsz0
  have hval : ∀ (j : Nat) t v, Try.f7.params[j]? = some t → args[j]? = some v → Value.okWide Try.prog W .any base t v := hval0
  have hW' := hW
  obtain ⟨p, q, hA0, hV, rfl, hfz, hnd⟩ := hW
  have hA : DataW.TrodAll enc Try.prog W 0 (fun _ => true) true Try.f7.params.toList args.toList ds p := hA0
  rw [Try.params7] at hA hval hsz
  obtain ⟨v0, vs0, d0, ds0, p0, q0, hargs, rfl, rfl, h0, r0⟩ := trodAll_cons hA
  obtain ⟨v1, vs1, d1, ds1, p1, q1, rfl, rfl, rfl, h1, r1⟩ := trodAll_cons r0
  obtain ⟨v2, vs2, d2, ds2, p2, q2, rfl, rfl, rfl, h2, r2⟩ := trodAll_cons r1
  obtain ⟨v3, vs3, d3, ds3, p3, q3, rfl, rfl, rfl, h3, r3⟩ := trodAll_cons r2
  obtain ⟨rfl, rfl, rfl⟩ := trodAll_nil r3
  obtain rfl : args = #[v0, v1, v2, v3] := by cases args; simp_all
  obtain ⟨rfl, rfl⟩ := trodVars_none hV
  have k0 := h0
  have lt0 : ∀ x ∈ p0, x.block < W.heap.size := by obtain ⟨m, hm⟩ := k0; exact DataW.trod_lt m _ _ _ hm
  have k1 := h1
  have lt1 : ∀ x ∈ p1, x.block < W.heap.size := by obtain ⟨m, hm⟩ := k1; exact DataW.trod_lt m _ _ _ hm
  have k2 := h2
  have lt2 : ∀ x ∈ p2, x.block < W.heap.size := by obtain ⟨m, hm⟩ := k2; exact DataW.trod_lt m _ _ _ hm
  have k3 := h3
  have lt3 : ∀ x ∈ p3, x.block < W.heap.size := by obtain ⟨m, hm⟩ := k3; exact DataW.trod_lt m _ _ _ hm
  obtain ⟨a0, rfl, rfl, rfl, w0⟩ := open_int Try.underlying3 (hval 0 3 v0 rfl rfl) h0
  have b0 := YtgdmgolmeeigdaaAM.bd_i64 w0
  obtain ⟨a1, rfl, rfl, rfl, w1⟩ := open_int Try.underlying3 (hval 1 3 v1 rfl rfl) h1
  have b1 := YtgdmgolmeeigdaaAM.bd_i64 w1
  obtain ⟨s2, rfl, rfl, rfl, w2⟩ := open_string Try.underlying9 (hval 2 9 v2 rfl rfl) h2
  obtain ⟨x3, u3, ρ1, A1, sr3, gr1, vr3⟩ := YtgdmgolmeeigdaaAM.open_arg Try.underlying46 (by kernel_rfl) (by decide) (z := 5) YtgdmgolmeeigdaaAM.act_keeps (YtgdmgolmeeigdaaAM.opens_act) (hval 3 46 v3 rfl rfl) h3 (fun w hw => of_decide_eq_true (List.all_eq_true.1 hsz _ (DataW.weights_mem_each (j := 3) rfl rfl w hw))) (YtgdmgolmeeigdaaAM.in_empty W)
  have sz3 := sr3.2
  have sr3 := sr3.1
  have in1 := gr1.inr
  have ex1 := gr1.ext
  have ll3 : x3.length ≤ 140737488355328 := by have h1 := Nat.mul_le_mul_left x3.length (show 1 ≤ Try.prog.bytesOf 54 by decide +kernel); have h3 : reachBytes = 0x7ffffffff000 := rfl; omega
  obtain ⟨inP0, exP0⟩ := YtgdmgolmeeigdaaAM.in_pass in1
  obtain ⟨inP, exP⟩ := YtgdmgolmeeigdaaAM.in_pass inP0
  have o3 := sr3
  clear hA0 hval0 hsz0 hsz
  have hcall := YtgdmgolmeeigdaaAM.law_calls_in mixed plain (YtgdmgolmeeigdaaAM.memo_sound plain YtgdmgolmeeigdaaAM.known_all) Try.func7 (by kernel_rfl) inP (args := [.int .i64 a0, .int .i64 a1, .string (YtgdmgolmeeigdaaAM.mkStr (YtgdmgolmeeigdaaAM.strOf s2)), u3]) (args' := [.int .i64 a0, .int .i64 a1, .string (YtgdmgolmeeigdaaAM.mkStr (YtgdmgolmeeigdaaAM.strOf s2)), v3]) (.cons (YtgdmgolmeeigdaaAM.flat_self rfl) (.cons (YtgdmgolmeeigdaaAM.flat_self rfl) (.cons (YtgdmgolmeeigdaaAM.flat_self rfl) (.cons ((vr3.mono exP0).mono exP) .nil)))) (YtgdmgolmeeigdaaAM.law7 a0 a1 (YtgdmgolmeeigdaaAM.strOf s2) w2 _ x3 ll3 _ _ rfl o3)
  refine hcall.mono fun e W' ⟨he, bel⟩ => ?_
  subst he
  exact ⟨_, rfl, _, _, _, [], _, [], hW', trodAll_mk1 (shut_bool Try.underlying4 _), (trodAll_cons_mk (Below.trod laidOut (by kernel_rfl) (of_decide_eq_true (by kernel_rfl)) k0 bel lt0) (trodAll_cons_mk (Below.trod laidOut (by kernel_rfl) (of_decide_eq_true (by kernel_rfl)) k1 bel lt1) (trodAll_cons_mk (Below.trod laidOut (by kernel_rfl) (of_decide_eq_true (by kernel_rfl)) k2 bel lt2) (trodAll_cons_mk (Below.trod laidOut (by kernel_rfl) (of_decide_eq_true (by kernel_rfl)) k3 bel lt3) trodAll_mk0)))), rfl, bel.frame _, fun h => by cases h⟩
theorem over : Rows.deviceScriptRow.holds Try.pinned (OpenSpec.ofChange Rows.deviceScriptSpec) :=
  OpenClaim.holds_of_wide 7 Try.f7 rfl rfl rfl rfl rfl rfl rfl ⟨rfl, rfl, rfl, rfl, rfl⟩ rfl rfl rfl rfl rfl (by kernel_rfl) Try.func7 (by kernel_rfl)
    (of_decide_eq_true (by kernel_rfl)) (by unfold Func.isWrapper; first | (rw [if_pos (by decide +kernel)]; kernel_rfl) | (rw [if_neg (by decide +kernel)]; exact ⟨rfl, rfl⟩))
    (fun os started H enc _ => lifted os started H enc)
theorem proved : Rows.DeviceScriptSaid := over
#print axioms proved
end Go.Proofs.Ytgdmgolmeeigdaa.deviceScript
namespace Go.Proofs.Ytgdmgolmeeigdaa
/-- The row, under a short name, for the claim. -/
theorem deviceScript_holds : Rows.DeviceScriptSaid := deviceScript.proved
end Go.Proofs.Ytgdmgolmeeigdaa

