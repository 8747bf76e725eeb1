import Derived.Test.YtgdmgolmeeigdaaRows
import Derived.Test.YtgdmgolmeeigdaaD23
import Derived.WalkKit
import Derived.ProofKit
import Derived.OpenShut
import Derived.ShutString
import Derived.ChangeOld
import Derived.Below
import Derived.SizedLaws
import Derived.Lib.SmallJoins
namespace Go.Proofs.Ytgdmgolmeeigdaa.deviceCrash
open Go.ChangeShapes Go.WideShapes Go.ChangeAt Go.RowKit Go.Joins
open Go.ChangeMaps (open_string shut_string)
set_option linter.unusedVariables false
set_option linter.unusedSimpArgs false
theorem own : ownKnob Try.prog.godebug = none := by kernel_rfl
theorem laidOut : laidOutB Try.prog = true := by kernel_rfl
theorem mixed : Try.prog.follows .mixedOrders = true := by kernel_rfl
theorem plain : YtgdmgolmeeigdaaAM.plainNames Try.prog = true := by kernel_rfl
set_option maxRecDepth 100000 in
theorem lifted (os : Os) (started : os.Started) (H : Type) (enc : TypeId × Value → H) :
    ReturnsInHanded {} Try.checked os 6 .any (Rows.deviceCrashSpec.pre6 enc Try.prog Try.f6 Rows.deviceCrashRow.domain false) (Rows.deviceCrashSpec.post enc Try.prog Try.f6 false true false false) := by
  refine returnsInHanded_of_change_sized (C := Try.checked) own started (by kernel_rfl) Try.func6
    (ChangeSpec.witness6 (enc := enc) (C := Try.checked) false ⟨#[], #[.string ByteArray.empty, .slice none 0 0, .slice none 0 0], []⟩ 8 (by kernel_rfl) (by kernel_rfl) (by kernel_rfl) (by kernel_rfl)) ?_
  intro W base args ds gs before hval0 hW hcnd hsz0 _
  have hsz : (DataW.weightsEach Try.prog (Try.f6.params.toList ++ Rows.deviceCrashSpec.plain.varTypes Try.prog) (ds ++ gs)).all (· ≤ reachBytes) = true := hsz0
  have hval : ∀ (j : Nat) t v, Try.f6.params[j]? = some t → args[j]? = some v → Value.okWide Try.prog W .any base t v := hval0
  have hW' := hW
  obtain ⟨p, q, hA0, hV, rfl, hfz, hnd⟩ := hW
  have hA : DataW.TrodAll enc Try.prog W 0 (fun _ => true) true Try.f6.params.toList args.toList ds p := hA0
  rw [Try.params6] at hA hval hsz
  obtain ⟨v0, vs0, d0, ds0, p0, q0, hargs, rfl, rfl, h0, r0⟩ := trodAll_cons hA
  obtain ⟨v1, vs1, d1, ds1, p1, q1, rfl, rfl, rfl, h1, r1⟩ := trodAll_cons r0
  obtain ⟨v2, vs2, d2, ds2, p2, q2, rfl, rfl, rfl, h2, r2⟩ := trodAll_cons r1
  obtain ⟨rfl, rfl, rfl⟩ := trodAll_nil r2
  obtain rfl : args = #[v0, v1, v2] := by cases args; simp_all
  obtain ⟨rfl, rfl⟩ := trodVars_none hV
  have k0 := h0
  have lt0 : ∀ x ∈ p0, x.block < W.heap.size := by obtain ⟨m, hm⟩ := k0; exact DataW.trod_lt m _ _ _ hm
  have k1 := h1
  have lt1 : ∀ x ∈ p1, x.block < W.heap.size := by obtain ⟨m, hm⟩ := k1; exact DataW.trod_lt m _ _ _ hm
  have k2 := h2
  have lt2 : ∀ x ∈ p2, x.block < W.heap.size := by obtain ⟨m, hm⟩ := k2; exact DataW.trod_lt m _ _ _ hm
  obtain ⟨s0, rfl, rfl, rfl, w0⟩ := open_string Try.underlying9 (hval 0 9 v0 rfl rfl) h0
  obtain ⟨x1, u1, ρ1, A1, sr1, gr1, vr1⟩ := YtgdmgolmeeigdaaAM.open_arg Try.underlying46 (by kernel_rfl) (by decide) (z := 5) YtgdmgolmeeigdaaAM.act_keeps (YtgdmgolmeeigdaaAM.opens_act) (hval 1 46 v1 rfl rfl) h1 (YtgdmgolmeeigdaaAM.in_empty W)
  have in1 := gr1.inr
  have ex1 := gr1.ext
  have ll1 : x1.length ≤ 140737488355328 := by obtain ⟨_, _, e⟩ := sr1.len; subst e; exact YtgdmgolmeeigdaaAM.arg_sized Try.underlying46 h1 vr1 hsz (j := 1) rfl rfl (by decide +kernel)
  obtain ⟨x2, u2, ρ2, A2, g2, in2, ex2, vr2, lv2, le2, lk2⟩ := YtgdmgolmeeigdaaAM.open_flats (fun x : Int => [.int .i64 x]) (fun x => (Lit.int .i64 x).wf = true) Try.underlying22 (by kernel_rfl) (fun x => rfl) (fun x => rfl) (fun cs n y h => by obtain ⟨x, e, _, w⟩ := DataW.trod_int Try.underlying3 h; exact ⟨x, e, w⟩) (hval 2 22 v2 rfl rfl) h2 in1
  obtain ⟨inP0, exP0⟩ := YtgdmgolmeeigdaaAM.in_pass in2
  obtain ⟨inP1, exP1⟩ := YtgdmgolmeeigdaaAM.in_pass inP0
  obtain ⟨inP2, exP2⟩ := YtgdmgolmeeigdaaAM.in_pass inP1
  obtain ⟨inP3, exP3⟩ := YtgdmgolmeeigdaaAM.in_pass inP2
  obtain ⟨inP4, exP4⟩ := YtgdmgolmeeigdaaAM.in_pass inP3
  obtain ⟨inP, exP⟩ := YtgdmgolmeeigdaaAM.in_pass inP4
  have l2 := lv2
  have o1 := (YtgdmgolmeeigdaaAM.slice_keeps YtgdmgolmeeigdaaAM.act_keeps _ _ _ _ _ _ sr1 le2 lk2)
  clear hA0 hval0 hsz0 hsz
  have hcall := YtgdmgolmeeigdaaAM.law_calls_in mixed plain (YtgdmgolmeeigdaaAM.memo_sound plain YtgdmgolmeeigdaaAM.known_all) Try.func6 (by kernel_rfl) inP (args := [.string (YtgdmgolmeeigdaaAM.mkStr (YtgdmgolmeeigdaaAM.strOf s0)), u1, u2]) (args' := [.string (YtgdmgolmeeigdaaAM.mkStr (YtgdmgolmeeigdaaAM.strOf s0)), v1, v2]) (.cons (YtgdmgolmeeigdaaAM.flat_self rfl) (.cons (((((((vr1.mono ex2).mono exP0).mono exP1).mono exP2).mono exP3).mono exP4).mono exP) (.cons ((((((vr2.mono exP0).mono exP1).mono exP2).mono exP3).mono exP4).mono exP) .nil))) (YtgdmgolmeeigdaaAM.law6 (YtgdmgolmeeigdaaAM.strOf s0) w0 _ _ x1 ll1 x2 (fun x hx => YtgdmgolmeeigdaaAM.bd_i64 (g2 x hx)) _ _ rfl o1 l2)
  refine hcall.mono fun e W' ⟨he, bel⟩ => ?_
  subst he
  exact ⟨_, rfl, _, _, _, [], _, [], hW', trodAll_mk1 (shut_bool Try.underlying4 _), (trodAll_cons_mk (Below.trod laidOut (by kernel_rfl) (of_decide_eq_true (by kernel_rfl)) k0 bel lt0) (trodAll_cons_mk (Below.trod laidOut (by kernel_rfl) (of_decide_eq_true (by kernel_rfl)) k1 bel lt1) (trodAll_cons_mk (Below.trod laidOut (by kernel_rfl) (of_decide_eq_true (by kernel_rfl)) k2 bel lt2) trodAll_mk0))), rfl, bel.frame _, fun h => by cases h⟩
theorem over : Rows.deviceCrashRow.holds Try.pinned (OpenSpec.ofChange Rows.deviceCrashSpec) :=
  OpenClaim.holds_of_wide 6 Try.f6 rfl rfl rfl rfl rfl rfl rfl ⟨rfl, rfl, rfl, rfl, rfl⟩ rfl rfl rfl rfl rfl (by kernel_rfl) Try.func6 (by kernel_rfl)
    (of_decide_eq_true (by kernel_rfl)) (by unfold Func.isWrapper; first | (rw [if_pos (by decide +kernel)]; kernel_rfl) | (rw [if_neg (by decide +kernel)]; exact ⟨rfl, rfl⟩))
    (fun os started H enc _ => lifted os started H enc)
theorem proved : Rows.DeviceCrashSaid := over
#print axioms proved
end Go.Proofs.Ytgdmgolmeeigdaa.deviceCrash
namespace Go.Proofs.Ytgdmgolmeeigdaa
/-- The row, under a short name, for the claim. -/
theorem deviceCrash_holds : Rows.DeviceCrashSaid := deviceCrash.proved
end Go.Proofs.Ytgdmgolmeeigdaa

