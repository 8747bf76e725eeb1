import Derived.Test.YtmdfejlfdgaomaaRows
import Derived.Test.YtmdfejlfdgaomaaO11
import Derived.WalkKit
import Derived.ProofKit
import Derived.OpenShut
import Derived.ShutString
import Derived.ChangeOld
import Derived.Below
import Derived.SizedLaws
import Derived.Lib.SmallJoins
namespace Go.Proofs.Ytmdfejlfdgaomaa.overBack
open Go.ChangeShapes Go.WideShapes Go.ChangeAt Go.RowKit Go.Joins
open Go.ChangeMaps (open_string shut_string)
set_option linter.unusedVariables false
set_option linter.unusedSimpArgs false
theorem own : ownKnob Try.prog.godebug = none := by kernel_rfl
theorem laidOut : laidOutB Try.prog = true := by kernel_rfl
theorem mixed : Try.prog.follows .mixedOrders = true := by kernel_rfl
theorem plain : YtmdfejlfdgaomaaAM.plainNames Try.prog = true := by kernel_rfl
set_option maxRecDepth 100000 in
theorem lifted (os : Os) (started : os.Started) (H : Type) (enc : TypeId × Value → H) :
    ReturnsInHanded {} Try.checked os 7 .any (Rows.overBackSpec.pre6 enc Try.prog Try.f7 Rows.overBackRow.domain false) (Rows.overBackSpec.post enc Try.prog Try.f7 false true false false) := by
  refine returnsInHanded_of_change_sized (C := Try.checked) own started (by kernel_rfl) Try.func7
    (ChangeSpec.witness6 (enc := enc) (C := Try.checked) false ⟨#[], #[.int .i64 0, .string ByteArray.empty, .int .u32 0, .agg #[.int .i64 0, .int .i64 0, .int .u32 0, .int .u32 0, .int .u64 0, .string ByteArray.empty]], []⟩ 8 (by kernel_rfl) (by kernel_rfl) (by kernel_rfl) (by kernel_rfl)) ?_
  intro W base args ds gs before hval0 hW hcnd hsz0 _
  have hsz : (DataW.weightsEach Try.prog (Try.f7.params.toList ++ Rows.overBackSpec.plain.varTypes Try.prog) (ds ++ gs)).all (· ≤ reachBytes) = true := hsz0
  have hval : ∀ (j : Nat) t v, Try.f7.params[j]? = some t → args[j]? = some v → Value.okWide Try.prog W .any base t v := hval0
  have hW' := hW
  obtain ⟨p, q, hA0, hV, rfl, hfz, hnd⟩ := hW
  have hA : DataW.TrodAll enc Try.prog W 0 (fun _ => true) true Try.f7.params.toList args.toList ds p := hA0
  rw [Try.params7] at hA hval hsz
  obtain ⟨v0, vs0, d0, ds0, p0, q0, hargs, rfl, rfl, h0, r0⟩ := trodAll_cons hA
  obtain ⟨v1, vs1, d1, ds1, p1, q1, rfl, rfl, rfl, h1, r1⟩ := trodAll_cons r0
  obtain ⟨v2, vs2, d2, ds2, p2, q2, rfl, rfl, rfl, h2, r2⟩ := trodAll_cons r1
  obtain ⟨v3, vs3, d3, ds3, p3, q3, rfl, rfl, rfl, h3, r3⟩ := trodAll_cons r2
  obtain ⟨rfl, rfl, rfl⟩ := trodAll_nil r3
  obtain rfl : args = #[v0, v1, v2, v3] := by cases args; simp_all
  obtain ⟨rfl, rfl⟩ := trodVars_none hV
  have k0 := h0
  have lt0 : ∀ x ∈ p0, x.block < W.heap.size := by obtain ⟨m, hm⟩ := k0; exact DataW.trod_lt m _ _ _ hm
  have k1 := h1
  have lt1 : ∀ x ∈ p1, x.block < W.heap.size := by obtain ⟨m, hm⟩ := k1; exact DataW.trod_lt m _ _ _ hm
  have k2 := h2
  have lt2 : ∀ x ∈ p2, x.block < W.heap.size := by obtain ⟨m, hm⟩ := k2; exact DataW.trod_lt m _ _ _ hm
  have k3 := h3
  have lt3 : ∀ x ∈ p3, x.block < W.heap.size := by obtain ⟨m, hm⟩ := k3; exact DataW.trod_lt m _ _ _ hm
  obtain ⟨a0, rfl, rfl, rfl, w0⟩ := open_int Try.underlying3 (hval 0 3 v0 rfl rfl) h0
  have b0 := YtmdfejlfdgaomaaAM.bd_i64 w0
  obtain ⟨s1, rfl, rfl, rfl, w1⟩ := open_string Try.underlying9 (hval 1 9 v1 rfl rfl) h1
  obtain ⟨a2, rfl, rfl, rfl, w2⟩ := open_int Try.underlying29 (hval 2 29 v2 rfl rfl) h2
  have b2 := YtmdfejlfdgaomaaAM.bd_u32 w2
  obtain ⟨cs3, rfl, hl3, hf3⟩ := YtmdfejlfdgaomaaAM.open_agg Try.underlying32 (by kernel_rfl) (by kernel_rfl) (hval 3 32 v3 rfl rfl) h3
  obtain ⟨c3_0, c3_1, c3_2, c3_3, c3_4, c3_5, rfl⟩ := YtmdfejlfdgaomaaAM.list6 (hl3.trans (by kernel_rfl))
  obtain ⟨g3_0, rfl, w3_0⟩ := YtmdfejlfdgaomaaAM.one_int' Try.underlying3 (hf3 0 _ _ rfl rfl)
  have b3_0 := YtmdfejlfdgaomaaAM.bd_i64 w3_0
  obtain ⟨g3_1, rfl, w3_1⟩ := YtmdfejlfdgaomaaAM.one_int' Try.underlying3 (hf3 1 _ _ rfl rfl)
  have b3_1 := YtmdfejlfdgaomaaAM.bd_i64 w3_1
  obtain ⟨g3_2, rfl, w3_2⟩ := YtmdfejlfdgaomaaAM.one_int' Try.underlying29 (hf3 2 _ _ rfl rfl)
  have b3_2 := YtmdfejlfdgaomaaAM.bd_u32 w3_2
  obtain ⟨g3_3, rfl, w3_3⟩ := YtmdfejlfdgaomaaAM.one_int' Try.underlying29 (hf3 3 _ _ rfl rfl)
  have b3_3 := YtmdfejlfdgaomaaAM.bd_u32 w3_3
  obtain ⟨g3_4, rfl, w3_4⟩ := YtmdfejlfdgaomaaAM.one_int' Try.underlying30 (hf3 4 _ _ rfl rfl)
  have b3_4 := YtmdfejlfdgaomaaAM.bd_u64 w3_4
  obtain ⟨g3_5, rfl, w3_5⟩ := YtmdfejlfdgaomaaAM.one_str' Try.underlying9 (hf3 5 _ _ rfl rfl)
  clear hA0 hval0 hsz0 hsz
  have hcall := YtmdfejlfdgaomaaAM.law_calls mixed plain Try.func7 (by kernel_rfl) (args := [.int .i64 a0, .string (YtmdfejlfdgaomaaAM.mkStr (YtmdfejlfdgaomaaAM.strOf s1)), .int .u32 a2, .agg #[.int .i64 g3_0, .int .i64 g3_1, .int .u32 g3_2, .int .u32 g3_3, .int .u64 g3_4, .string (YtmdfejlfdgaomaaAM.mkStr (YtmdfejlfdgaomaaAM.strOf g3_5))]]) (by simp only [YtmdfejlfdgaomaaAM.flat_int, YtmdfejlfdgaomaaAM.flat_bool, YtmdfejlfdgaomaaAM.flat_str, YtmdfejlfdgaomaaAM.flat_float, YtmdfejlfdgaomaaAM.flat_agg, YtmdfejlfdgaomaaAM.flatN_int, YtmdfejlfdgaomaaAM.flatN_bool, YtmdfejlfdgaomaaAM.flatN_str, YtmdfejlfdgaomaaAM.flatN_float, List.all_cons, List.all_nil, Bool.and_self, Bool.and_true]) (YtmdfejlfdgaomaaAM.law7 a0 _ a2 _ _ _ _ _ _ b2 _) W
  refine hcall.mono fun e W' ⟨he, bel⟩ => ?_
  subst he
  exact ⟨_, rfl, _, _, _, [], _, [], hW', trodAll_mk1 (shut_bool Try.underlying4 _), (trodAll_cons_mk (Below.trod laidOut (by kernel_rfl) (of_decide_eq_true (by kernel_rfl)) k0 bel lt0) (trodAll_cons_mk (Below.trod laidOut (by kernel_rfl) (of_decide_eq_true (by kernel_rfl)) k1 bel lt1) (trodAll_cons_mk (Below.trod laidOut (by kernel_rfl) (of_decide_eq_true (by kernel_rfl)) k2 bel lt2) (trodAll_cons_mk (Below.trod laidOut (by kernel_rfl) (of_decide_eq_true (by kernel_rfl)) k3 bel lt3) trodAll_mk0)))), rfl, bel.frame _, fun h => by cases h⟩
theorem over : Rows.overBackRow.holds Try.pinned (OpenSpec.ofChange Rows.overBackSpec) :=
  OpenClaim.holds_of_wide 7 Try.f7 rfl rfl rfl rfl rfl rfl rfl ⟨rfl, rfl, rfl, rfl, rfl⟩ rfl rfl rfl rfl rfl (by kernel_rfl) Try.func7 (by kernel_rfl)
    (of_decide_eq_true (by kernel_rfl)) (by unfold Func.isWrapper; first | (rw [if_pos (by decide +kernel)]; kernel_rfl) | (rw [if_neg (by decide +kernel)]; exact ⟨rfl, rfl⟩))
    (fun os started H enc _ => lifted os started H enc)
theorem proved : Rows.OverBackSaid := over
#print axioms proved
end Go.Proofs.Ytmdfejlfdgaomaa.overBack
namespace Go.Proofs.Ytmdfejlfdgaomaa
/-- The row, under a short name, for the claim. -/
theorem overBack_holds : Rows.OverBackSaid := overBack.proved
end Go.Proofs.Ytmdfejlfdgaomaa

