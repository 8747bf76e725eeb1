import Derived.Test.YtmdfejlfdgaomaaRows
import Derived.Test.YtmdfejlfdgaomaaO8
import Derived.WalkKit
import Derived.ProofKit
import Derived.OpenShut
import Derived.ShutString
import Derived.ChangeOld
import Derived.Below
import Derived.SizedLaws
import Derived.Lib.SmallJoins
namespace Go.Proofs.Ytmdfejlfdgaomaa.overCalls
open Go.ChangeShapes Go.WideShapes Go.ChangeAt Go.RowKit Go.Joins
open Go.ChangeMaps (open_string shut_string)
set_option linter.unusedVariables false
set_option linter.unusedSimpArgs false
theorem own : ownKnob Try.prog.godebug = none := by kernel_rfl
theorem laidOut : laidOutB Try.prog = true := by kernel_rfl
theorem mixed : Try.prog.follows .mixedOrders = true := by kernel_rfl
theorem plain : YtmdfejlfdgaomaaAM.plainNames Try.prog = true := by kernel_rfl
set_option maxRecDepth 100000 in
theorem lifted (os : Os) (started : os.Started) (H : Type) (enc : TypeId × Value → H) :
    ReturnsInHanded {} Try.checked os 6 .any (Rows.overCallsSpec.pre6 enc Try.prog Try.f6 Rows.overCallsRow.domain false) (Rows.overCallsSpec.post enc Try.prog Try.f6 false true false false) := by
  refine returnsInHanded_of_change_sized (C := Try.checked) own started (by kernel_rfl) Try.func6
    (ChangeSpec.witness6 (enc := enc) (C := Try.checked) false ⟨#[], #[.int .i64 0, .int .u32 0, .int .u32 0, .int .u64 0, .string ByteArray.empty, .agg #[.int .i64 0, .int .i64 0, .int .u32 0, .int .u32 0, .int .u64 0, .string ByteArray.empty], .string ByteArray.empty, .int .i64 0], []⟩ 8 (by kernel_rfl) (by kernel_rfl) (by kernel_rfl) (by kernel_rfl)) ?_
  intro W base args ds gs before hval0 hW hcnd hsz0 _
  have hsz : (DataW.weightsEach Try.prog (Try.f6.params.toList ++ Rows.overCallsSpec.plain.varTypes Try.prog) (ds ++ gs)).all (· ≤ reachBytes) = true := hsz0
  have hval : ∀ (j : Nat) t v, Try.f6.params[j]? = some t → args[j]? = some v → Value.okWide Try.prog W .any base t v := hval0
  have hW' := hW
  obtain ⟨p, q, hA0, hV, rfl, hfz, hnd⟩ := hW
  have hA : DataW.TrodAll enc Try.prog W 0 (fun _ => true) true Try.f6.params.toList args.toList ds p := hA0
  rw [Try.params6] at hA hval hsz
  obtain ⟨v0, vs0, d0, ds0, p0, q0, hargs, rfl, rfl, h0, r0⟩ := trodAll_cons hA
  obtain ⟨v1, vs1, d1, ds1, p1, q1, rfl, rfl, rfl, h1, r1⟩ := trodAll_cons r0
  obtain ⟨v2, vs2, d2, ds2, p2, q2, rfl, rfl, rfl, h2, r2⟩ := trodAll_cons r1
  obtain ⟨v3, vs3, d3, ds3, p3, q3, rfl, rfl, rfl, h3, r3⟩ := trodAll_cons r2
  obtain ⟨v4, vs4, d4, ds4, p4, q4, rfl, rfl, rfl, h4, r4⟩ := trodAll_cons r3
  obtain ⟨v5, vs5, d5, ds5, p5, q5, rfl, rfl, rfl, h5, r5⟩ := trodAll_cons r4
  obtain ⟨v6, vs6, d6, ds6, p6, q6, rfl, rfl, rfl, h6, r6⟩ := trodAll_cons r5
  obtain ⟨v7, vs7, d7, ds7, p7, q7, rfl, rfl, rfl, h7, r7⟩ := trodAll_cons r6
  obtain ⟨rfl, rfl, rfl⟩ := trodAll_nil r7
  obtain rfl : args = #[v0, v1, v2, v3, v4, v5, v6, v7] := by cases args; simp_all
  obtain ⟨rfl, rfl⟩ := trodVars_none hV
  have k0 := h0
  have lt0 : ∀ x ∈ p0, x.block < W.heap.size := by obtain ⟨m, hm⟩ := k0; exact DataW.trod_lt m _ _ _ hm
  have k1 := h1
  have lt1 : ∀ x ∈ p1, x.block < W.heap.size := by obtain ⟨m, hm⟩ := k1; exact DataW.trod_lt m _ _ _ hm
  have k2 := h2
  have lt2 : ∀ x ∈ p2, x.block < W.heap.size := by obtain ⟨m, hm⟩ := k2; exact DataW.trod_lt m _ _ _ hm
  have k3 := h3
  have lt3 : ∀ x ∈ p3, x.block < W.heap.size := by obtain ⟨m, hm⟩ := k3; exact DataW.trod_lt m _ _ _ hm
  have k4 := h4
  have lt4 : ∀ x ∈ p4, x.block < W.heap.size := by obtain ⟨m, hm⟩ := k4; exact DataW.trod_lt m _ _ _ hm
  have k5 := h5
  have lt5 : ∀ x ∈ p5, x.block < W.heap.size := by obtain ⟨m, hm⟩ := k5; exact DataW.trod_lt m _ _ _ hm
  have k6 := h6
  have lt6 : ∀ x ∈ p6, x.block < W.heap.size := by obtain ⟨m, hm⟩ := k6; exact DataW.trod_lt m _ _ _ hm
  have k7 := h7
  have lt7 : ∀ x ∈ p7, x.block < W.heap.size := by obtain ⟨m, hm⟩ := k7; exact DataW.trod_lt m _ _ _ hm
  obtain ⟨a0, rfl, rfl, rfl, w0⟩ := open_int Try.underlying3 (hval 0 3 v0 rfl rfl) h0
  have b0 := YtmdfejlfdgaomaaAM.bd_i64 w0
  obtain ⟨a1, rfl, rfl, rfl, w1⟩ := open_int Try.underlying29 (hval 1 29 v1 rfl rfl) h1
  have b1 := YtmdfejlfdgaomaaAM.bd_u32 w1
  obtain ⟨a2, rfl, rfl, rfl, w2⟩ := open_int Try.underlying29 (hval 2 29 v2 rfl rfl) h2
  have b2 := YtmdfejlfdgaomaaAM.bd_u32 w2
  obtain ⟨a3, rfl, rfl, rfl, w3⟩ := open_int Try.underlying30 (hval 3 30 v3 rfl rfl) h3
  have b3 := YtmdfejlfdgaomaaAM.bd_u64 w3
  obtain ⟨s4, rfl, rfl, rfl, w4⟩ := open_string Try.underlying9 (hval 4 9 v4 rfl rfl) h4
  obtain ⟨cs5, rfl, hl5, hf5⟩ := YtmdfejlfdgaomaaAM.open_agg Try.underlying32 (by kernel_rfl) (by kernel_rfl) (hval 5 32 v5 rfl rfl) h5
  obtain ⟨c5_0, c5_1, c5_2, c5_3, c5_4, c5_5, rfl⟩ := YtmdfejlfdgaomaaAM.list6 (hl5.trans (by kernel_rfl))
  obtain ⟨g5_0, rfl, w5_0⟩ := YtmdfejlfdgaomaaAM.one_int' Try.underlying3 (hf5 0 _ _ rfl rfl)
  have b5_0 := YtmdfejlfdgaomaaAM.bd_i64 w5_0
  obtain ⟨g5_1, rfl, w5_1⟩ := YtmdfejlfdgaomaaAM.one_int' Try.underlying3 (hf5 1 _ _ rfl rfl)
  have b5_1 := YtmdfejlfdgaomaaAM.bd_i64 w5_1
  obtain ⟨g5_2, rfl, w5_2⟩ := YtmdfejlfdgaomaaAM.one_int' Try.underlying29 (hf5 2 _ _ rfl rfl)
  have b5_2 := YtmdfejlfdgaomaaAM.bd_u32 w5_2
  obtain ⟨g5_3, rfl, w5_3⟩ := YtmdfejlfdgaomaaAM.one_int' Try.underlying29 (hf5 3 _ _ rfl rfl)
  have b5_3 := YtmdfejlfdgaomaaAM.bd_u32 w5_3
  obtain ⟨g5_4, rfl, w5_4⟩ := YtmdfejlfdgaomaaAM.one_int' Try.underlying30 (hf5 4 _ _ rfl rfl)
  have b5_4 := YtmdfejlfdgaomaaAM.bd_u64 w5_4
  obtain ⟨g5_5, rfl, w5_5⟩ := YtmdfejlfdgaomaaAM.one_str' Try.underlying9 (hf5 5 _ _ rfl rfl)
  obtain ⟨s6, rfl, rfl, rfl, w6⟩ := open_string Try.underlying9 (hval 6 9 v6 rfl rfl) h6
  obtain ⟨a7, rfl, rfl, rfl, w7⟩ := open_int Try.underlying3 (hval 7 3 v7 rfl rfl) h7
  have b7 := YtmdfejlfdgaomaaAM.bd_i64 w7
  clear hA0 hval0 hsz0 hsz
  have hcall := YtmdfejlfdgaomaaAM.law_calls mixed plain Try.func6 (by kernel_rfl) (args := [.int .i64 a0, .int .u32 a1, .int .u32 a2, .int .u64 a3, .string (YtmdfejlfdgaomaaAM.mkStr (YtmdfejlfdgaomaaAM.strOf s4)), .agg #[.int .i64 g5_0, .int .i64 g5_1, .int .u32 g5_2, .int .u32 g5_3, .int .u64 g5_4, .string (YtmdfejlfdgaomaaAM.mkStr (YtmdfejlfdgaomaaAM.strOf g5_5))], .string (YtmdfejlfdgaomaaAM.mkStr (YtmdfejlfdgaomaaAM.strOf s6)), .int .i64 a7]) (by simp only [YtmdfejlfdgaomaaAM.flat_int, YtmdfejlfdgaomaaAM.flat_bool, YtmdfejlfdgaomaaAM.flat_str, YtmdfejlfdgaomaaAM.flat_float, YtmdfejlfdgaomaaAM.flat_agg, YtmdfejlfdgaomaaAM.flatN_int, YtmdfejlfdgaomaaAM.flatN_bool, YtmdfejlfdgaomaaAM.flatN_str, YtmdfejlfdgaomaaAM.flatN_float, List.all_cons, List.all_nil, Bool.and_self, Bool.and_true]) (YtmdfejlfdgaomaaAM.law6 a0 a1 a2 a3 a7 _ _ _ _ _ _ _ _ b7.2 _) W
  refine hcall.mono fun e W' ⟨he, bel⟩ => ?_
  subst he
  exact ⟨_, rfl, _, _, _, [], _, [], hW', trodAll_mk1 (shut_bool Try.underlying4 _), (trodAll_cons_mk (Below.trod laidOut (by kernel_rfl) (of_decide_eq_true (by kernel_rfl)) k0 bel lt0) (trodAll_cons_mk (Below.trod laidOut (by kernel_rfl) (of_decide_eq_true (by kernel_rfl)) k1 bel lt1) (trodAll_cons_mk (Below.trod laidOut (by kernel_rfl) (of_decide_eq_true (by kernel_rfl)) k2 bel lt2) (trodAll_cons_mk (Below.trod laidOut (by kernel_rfl) (of_decide_eq_true (by kernel_rfl)) k3 bel lt3) (trodAll_cons_mk (Below.trod laidOut (by kernel_rfl) (of_decide_eq_true (by kernel_rfl)) k4 bel lt4) (trodAll_cons_mk (Below.trod laidOut (by kernel_rfl) (of_decide_eq_true (by kernel_rfl)) k5 bel lt5) (trodAll_cons_mk (Below.trod laidOut (by kernel_rfl) (of_decide_eq_true (by kernel_rfl)) k6 bel lt6) (trodAll_cons_mk (Below.trod laidOut (by kernel_rfl) (of_decide_eq_true (by kernel_rfl)) k7 bel lt7) trodAll_mk0)))))))), rfl, bel.frame _, fun h => by cases h⟩
theorem over : Rows.overCallsRow.holds Try.pinned (OpenSpec.ofChange Rows.overCallsSpec) :=
  OpenClaim.holds_of_wide 6 Try.f6 rfl rfl rfl rfl rfl rfl rfl ⟨rfl, rfl, rfl, rfl, rfl⟩ rfl rfl rfl rfl rfl (by kernel_rfl) Try.func6 (by kernel_rfl)
    (of_decide_eq_true (by kernel_rfl)) (by unfold Func.isWrapper; first | (rw [if_pos (by decide +kernel)]; kernel_rfl) | (rw [if_neg (by decide +kernel)]; exact ⟨rfl, rfl⟩))
    (fun os started H enc _ => lifted os started H enc)
theorem proved : Rows.OverCallsSaid := over
#print axioms proved
end Go.Proofs.Ytmdfejlfdgaomaa.overCalls
namespace Go.Proofs.Ytmdfejlfdgaomaa
/-- The row, under a short name, for the claim. -/
theorem overCalls_holds : Rows.OverCallsSaid := overCalls.proved
end Go.Proofs.Ytmdfejlfdgaomaa

