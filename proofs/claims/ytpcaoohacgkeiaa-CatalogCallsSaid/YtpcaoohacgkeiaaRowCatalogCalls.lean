import Derived.Test.YtpcaoohacgkeiaaRows
import Derived.Test.YtpcaoohacgkeiaaR5
import Derived.WalkKit
import Derived.ProofKit
import Derived.OpenShut
import Derived.ShutString
import Derived.ChangeOld
import Derived.Below
import Derived.SizedLaws
import Derived.Lib.SmallJoins
namespace Go.Proofs.Ytpcaoohacgkeiaa.catalogCalls
open Go.ChangeShapes Go.WideShapes Go.ChangeAt Go.RowKit Go.Joins
open Go.ChangeMaps (open_string shut_string)
set_option linter.unusedVariables false
set_option linter.unusedSimpArgs false
theorem own : ownKnob Try.prog.godebug = none := by kernel_rfl
theorem laidOut : laidOutB Try.prog = true := by kernel_rfl
theorem mixed : Try.prog.follows .mixedOrders = true := by kernel_rfl
theorem plain : YtpcaoohacgkeiaaAM.plainNames Try.prog = true := by kernel_rfl
set_option maxRecDepth 100000 in
theorem lifted (os : Os) (started : os.Started) (H : Type) (enc : TypeId × Value → H) :
    ReturnsInHanded {} Try.checked os 5 .any (Rows.catalogCallsSpec.pre6 enc Try.prog Try.f5 Rows.catalogCallsRow.domain false) (Rows.catalogCallsSpec.post enc Try.prog Try.f5 false true false false) := by
  refine returnsInHanded_of_change_sized (C := Try.checked) own started (by kernel_rfl) Try.func5
    (ChangeSpec.witness6 (enc := enc) (C := Try.checked) false ⟨#[], #[.int .i64 0, .int .u32 0, .int .u64 0, .slice none 0 0, .agg #[.int .i64 0, .int .i64 0, .int .u32 0, .int .u32 0, .int .u64 0, .string ByteArray.empty], .agg #[.string ByteArray.empty, .int .u32 0, .int .i64 0]], []⟩ 8 (by kernel_rfl) (by kernel_rfl) (by kernel_rfl) (by kernel_rfl)) ?_
  intro W base args ds gs before hval0 hW hcnd hsz0 _
  have hsz : (DataW.weightsEach Try.prog (Try.f5.params.toList ++ Rows.catalogCallsSpec.plain.varTypes Try.prog) (ds ++ gs)).all (· ≤ reachBytes) = true := hsz0
  have hval : ∀ (j : Nat) t v, Try.f5.params[j]? = some t → args[j]? = some v → Value.okWide Try.prog W .any base t v := hval0
  have hW' := hW
  obtain ⟨p, q, hA0, hV, rfl, hfz, hnd⟩ := hW
  have hA : DataW.TrodAll enc Try.prog W 0 (fun _ => true) true Try.f5.params.toList args.toList ds p := hA0
  rw [Try.params5] at hA hval hsz
  obtain ⟨v0, vs0, d0, ds0, p0, q0, hargs, rfl, rfl, h0, r0⟩ := trodAll_cons hA
  obtain ⟨v1, vs1, d1, ds1, p1, q1, rfl, rfl, rfl, h1, r1⟩ := trodAll_cons r0
  obtain ⟨v2, vs2, d2, ds2, p2, q2, rfl, rfl, rfl, h2, r2⟩ := trodAll_cons r1
  obtain ⟨v3, vs3, d3, ds3, p3, q3, rfl, rfl, rfl, h3, r3⟩ := trodAll_cons r2
  obtain ⟨v4, vs4, d4, ds4, p4, q4, rfl, rfl, rfl, h4, r4⟩ := trodAll_cons r3
  obtain ⟨v5, vs5, d5, ds5, p5, q5, rfl, rfl, rfl, h5, r5⟩ := trodAll_cons r4
  obtain ⟨rfl, rfl, rfl⟩ := trodAll_nil r5
  obtain rfl : args = #[v0, v1, v2, v3, v4, v5] := by cases args; simp_all
  obtain ⟨rfl, rfl⟩ := trodVars_none hV
  have k0 := h0
  have lt0 : ∀ x ∈ p0, x.block < W.heap.size := by obtain ⟨m, hm⟩ := k0; exact DataW.trod_lt m _ _ _ hm
  have k1 := h1
  have lt1 : ∀ x ∈ p1, x.block < W.heap.size := by obtain ⟨m, hm⟩ := k1; exact DataW.trod_lt m _ _ _ hm
  have k2 := h2
  have lt2 : ∀ x ∈ p2, x.block < W.heap.size := by obtain ⟨m, hm⟩ := k2; exact DataW.trod_lt m _ _ _ hm
  have k3 := h3
  have lt3 : ∀ x ∈ p3, x.block < W.heap.size := by obtain ⟨m, hm⟩ := k3; exact DataW.trod_lt m _ _ _ hm
  have k4 := h4
  have lt4 : ∀ x ∈ p4, x.block < W.heap.size := by obtain ⟨m, hm⟩ := k4; exact DataW.trod_lt m _ _ _ hm
  have k5 := h5
  have lt5 : ∀ x ∈ p5, x.block < W.heap.size := by obtain ⟨m, hm⟩ := k5; exact DataW.trod_lt m _ _ _ hm
  obtain ⟨a0, rfl, rfl, rfl, w0⟩ := open_int Try.underlying3 (hval 0 3 v0 rfl rfl) h0
  have b0 := YtpcaoohacgkeiaaAM.bd_i64 w0
  obtain ⟨a1, rfl, rfl, rfl, w1⟩ := open_int Try.underlying22 (hval 1 22 v1 rfl rfl) h1
  have b1 := YtpcaoohacgkeiaaAM.bd_u32 w1
  obtain ⟨a2, rfl, rfl, rfl, w2⟩ := open_int Try.underlying23 (hval 2 23 v2 rfl rfl) h2
  have b2 := YtpcaoohacgkeiaaAM.bd_u64 w2
  obtain ⟨x3, u3, ρ1, A1, sr3, gr1, vr3⟩ := YtpcaoohacgkeiaaAM.open_arg Try.underlying24 (by kernel_rfl) (by decide) (z := 3) YtpcaoohacgkeiaaAM.bkt_keeps (YtpcaoohacgkeiaaAM.opens_bkt Try.underlying36 (by kernel_rfl) (by kernel_rfl) rfl) (hval 3 24 v3 rfl rfl) h3 (fun w hw => of_decide_eq_true (List.all_eq_true.1 hsz _ (DataW.weights_mem_each (j := 3) rfl rfl w hw))) (YtpcaoohacgkeiaaAM.in_empty W)
  have sz3 := sr3.2
  have sr3 := sr3.1
  have in1 := gr1.inr
  have ex1 := gr1.ext
  have ll3 : x3.length ≤ 5000000000000 := by have h1 := Nat.mul_le_mul_left x3.length (show 32 ≤ Try.prog.bytesOf 36 by decide +kernel); have h3 : reachBytes = 0x7ffffffff000 := rfl; omega
  obtain ⟨cs4, rfl, hl4, hf4⟩ := YtpcaoohacgkeiaaAM.open_agg Try.underlying26 (by kernel_rfl) (by kernel_rfl) (hval 4 26 v4 rfl rfl) h4
  obtain ⟨c4_0, c4_1, c4_2, c4_3, c4_4, c4_5, rfl⟩ := YtpcaoohacgkeiaaAM.list6 (hl4.trans (by kernel_rfl))
  obtain ⟨g4_0, rfl, w4_0⟩ := YtpcaoohacgkeiaaAM.one_int' Try.underlying3 (hf4 0 _ _ rfl rfl)
  have b4_0 := YtpcaoohacgkeiaaAM.bd_i64 w4_0
  obtain ⟨g4_1, rfl, w4_1⟩ := YtpcaoohacgkeiaaAM.one_int' Try.underlying3 (hf4 1 _ _ rfl rfl)
  have b4_1 := YtpcaoohacgkeiaaAM.bd_i64 w4_1
  obtain ⟨g4_2, rfl, w4_2⟩ := YtpcaoohacgkeiaaAM.one_int' Try.underlying22 (hf4 2 _ _ rfl rfl)
  have b4_2 := YtpcaoohacgkeiaaAM.bd_u32 w4_2
  obtain ⟨g4_3, rfl, w4_3⟩ := YtpcaoohacgkeiaaAM.one_int' Try.underlying22 (hf4 3 _ _ rfl rfl)
  have b4_3 := YtpcaoohacgkeiaaAM.bd_u32 w4_3
  obtain ⟨g4_4, rfl, w4_4⟩ := YtpcaoohacgkeiaaAM.one_int' Try.underlying23 (hf4 4 _ _ rfl rfl)
  have b4_4 := YtpcaoohacgkeiaaAM.bd_u64 w4_4
  obtain ⟨g4_5, rfl, w4_5⟩ := YtpcaoohacgkeiaaAM.one_str' Try.underlying9 (hf4 5 _ _ rfl rfl)
  obtain ⟨cs5, rfl, hl5, hf5⟩ := YtpcaoohacgkeiaaAM.open_agg Try.underlying36 (by kernel_rfl) (by kernel_rfl) (hval 5 36 v5 rfl rfl) h5
  obtain ⟨c5_0, c5_1, c5_2, rfl⟩ := YtpcaoohacgkeiaaAM.list3 (hl5.trans (by kernel_rfl))
  obtain ⟨g5_0, rfl, w5_0⟩ := YtpcaoohacgkeiaaAM.one_str' Try.underlying9 (hf5 0 _ _ rfl rfl)
  obtain ⟨g5_1, rfl, w5_1⟩ := YtpcaoohacgkeiaaAM.one_int' Try.underlying22 (hf5 1 _ _ rfl rfl)
  have b5_1 := YtpcaoohacgkeiaaAM.bd_u32 w5_1
  obtain ⟨g5_2, rfl, w5_2⟩ := YtpcaoohacgkeiaaAM.one_int' Try.underlying3 (hf5 2 _ _ rfl rfl)
  have b5_2 := YtpcaoohacgkeiaaAM.bd_i64 w5_2
  have o3 := sr3
  clear hA0 hval0 hsz0 hsz
  have hcall := YtpcaoohacgkeiaaAM.law_calls_in mixed plain YtpcaoohacgkeiaaAM.given_ok Try.func5 (by kernel_rfl) in1 (args := [.int .i64 a0, .int .u32 a1, .int .u64 a2, u3, .agg #[.int .i64 g4_0, .int .i64 g4_1, .int .u32 g4_2, .int .u32 g4_3, .int .u64 g4_4, .string (YtpcaoohacgkeiaaAM.mkStr (YtpcaoohacgkeiaaAM.strOf g4_5))], .agg #[.string (YtpcaoohacgkeiaaAM.mkStr (YtpcaoohacgkeiaaAM.strOf g5_0)), .int .u32 g5_1, .int .i64 g5_2]]) (args' := [.int .i64 a0, .int .u32 a1, .int .u64 a2, v3, .agg #[.int .i64 g4_0, .int .i64 g4_1, .int .u32 g4_2, .int .u32 g4_3, .int .u64 g4_4, .string (YtpcaoohacgkeiaaAM.mkStr (YtpcaoohacgkeiaaAM.strOf g4_5))], .agg #[.string (YtpcaoohacgkeiaaAM.mkStr (YtpcaoohacgkeiaaAM.strOf g5_0)), .int .u32 g5_1, .int .i64 g5_2]]) (.cons (YtpcaoohacgkeiaaAM.flat_self rfl) (.cons (YtpcaoohacgkeiaaAM.flat_self rfl) (.cons (YtpcaoohacgkeiaaAM.flat_self rfl) (.cons vr3 (.cons (YtpcaoohacgkeiaaAM.flat_self rfl) (.cons (YtpcaoohacgkeiaaAM.flat_self rfl) .nil)))))) (YtpcaoohacgkeiaaAM.law5r a0 a1 a2 _ x3 g4_0 g4_1 g4_2 g4_3 g4_4 g4_5 g5_0 g5_1 g5_2 ll3 b4_1 _ _ (Nat.le_refl _) o3)
  refine hcall.mono fun e W' ⟨he, bel⟩ => ?_
  subst he
  exact ⟨_, rfl, _, _, _, [], _, [], hW', trodAll_mk1 (shut_bool Try.underlying4 _), (trodAll_cons_mk (Below.trod laidOut (by kernel_rfl) (of_decide_eq_true (by kernel_rfl)) k0 bel lt0) (trodAll_cons_mk (Below.trod laidOut (by kernel_rfl) (of_decide_eq_true (by kernel_rfl)) k1 bel lt1) (trodAll_cons_mk (Below.trod laidOut (by kernel_rfl) (of_decide_eq_true (by kernel_rfl)) k2 bel lt2) (trodAll_cons_mk (Below.trod laidOut (by kernel_rfl) (of_decide_eq_true (by kernel_rfl)) k3 bel lt3) (trodAll_cons_mk (Below.trod laidOut (by kernel_rfl) (of_decide_eq_true (by kernel_rfl)) k4 bel lt4) (trodAll_cons_mk (Below.trod laidOut (by kernel_rfl) (of_decide_eq_true (by kernel_rfl)) k5 bel lt5) trodAll_mk0)))))), rfl, bel.frame _, fun h => by cases h⟩
theorem over : Rows.catalogCallsRow.holds Try.pinned (OpenSpec.ofChange Rows.catalogCallsSpec) :=
  OpenClaim.holds_of_wide 5 Try.f5 rfl rfl rfl rfl rfl rfl rfl ⟨rfl, rfl, rfl, rfl, rfl⟩ rfl rfl rfl rfl rfl (by kernel_rfl) Try.func5 (by kernel_rfl)
    (of_decide_eq_true (by kernel_rfl)) (by unfold Func.isWrapper; first | (rw [if_pos (by decide +kernel)]; kernel_rfl) | (rw [if_neg (by decide +kernel)]; exact ⟨rfl, rfl⟩))
    (fun os started H enc _ => lifted os started H enc)
theorem proved : Rows.CatalogCallsSaid := over

#print axioms proved
end Go.Proofs.Ytpcaoohacgkeiaa.catalogCalls
namespace Go.Proofs.Ytpcaoohacgkeiaa
/-- The row, under a short name, for the claim. -/
theorem catalogCalls_holds : Rows.CatalogCallsSaid := catalogCalls.proved
end Go.Proofs.Ytpcaoohacgkeiaa

