import Derived.Test.YtpcaoohacgkeiaaRows
import Derived.Test.YtpcaoohacgkeiaaQ5
import Derived.WalkKit
import Derived.ProofKit
import Derived.OpenShut
import Derived.ShutString
import Derived.ChangeOld
import Derived.Below
import Derived.SizedLaws
import Derived.Lib.SmallJoins
namespace Go.Proofs.Ytpcaoohacgkeiaa.catalogSets
open Go.ChangeShapes Go.WideShapes Go.ChangeAt Go.RowKit Go.Joins
open Go.ChangeMaps (open_string shut_string)
set_option linter.unusedVariables false
set_option linter.unusedSimpArgs false
theorem own : ownKnob Try.prog.godebug = none := by kernel_rfl
theorem laidOut : laidOutB Try.prog = true := by kernel_rfl
theorem mixed : Try.prog.follows .mixedOrders = true := by kernel_rfl
theorem plain : YtpcaoohacgkeiaaAM.plainNames Try.prog = true := by kernel_rfl
set_option maxRecDepth 100000 in
theorem lifted (os : Os) (started : os.Started) (H : Type) (enc : TypeId × Value → H) :
    ReturnsInHanded {} Try.checked os 7 .any (Rows.catalogSetsSpec.pre6 enc Try.prog Try.f7 Rows.catalogSetsRow.domain false) (Rows.catalogSetsSpec.post enc Try.prog Try.f7 false true false false) := by
  refine returnsInHanded_of_change_sized (C := Try.checked) own started (by kernel_rfl) Try.func7
    (ChangeSpec.witness6 (enc := enc) (C := Try.checked) false ⟨#[], #[.slice none 0 0, .agg #[.string ByteArray.empty, .int .u32 0, .int .i64 0], .agg #[.string ByteArray.empty, .int .u32 0, .int .i64 0]], []⟩ 8 (by kernel_rfl) (by kernel_rfl) (by kernel_rfl) (by kernel_rfl)) ?_
  intro W base args ds gs before hval0 hW hcnd hsz0 _
  have hsz : (DataW.weightsEach Try.prog (Try.f7.params.toList ++ Rows.catalogSetsSpec.plain.varTypes Try.prog) (ds ++ gs)).all (· ≤ reachBytes) = true := hsz0
  have hval : ∀ (j : Nat) t v, Try.f7.params[j]? = some t → args[j]? = some v → Value.okWide Try.prog W .any base t v := hval0
  have hW' := hW
  obtain ⟨p, q, hA0, hV, rfl, hfz, hnd⟩ := hW
  have hA : DataW.TrodAll enc Try.prog W 0 (fun _ => true) true Try.f7.params.toList args.toList ds p := hA0
  rw [Try.params7] at hA hval hsz
  obtain ⟨v0, vs0, d0, ds0, p0, q0, hargs, rfl, rfl, h0, r0⟩ := trodAll_cons hA
  obtain ⟨v1, vs1, d1, ds1, p1, q1, rfl, rfl, rfl, h1, r1⟩ := trodAll_cons r0
  obtain ⟨v2, vs2, d2, ds2, p2, q2, rfl, rfl, rfl, h2, r2⟩ := trodAll_cons r1
  obtain ⟨rfl, rfl, rfl⟩ := trodAll_nil r2
  obtain rfl : args = #[v0, v1, v2] := by cases args; simp_all
  obtain ⟨rfl, rfl⟩ := trodVars_none hV
  have k0 := h0
  have lt0 : ∀ x ∈ p0, x.block < W.heap.size := by obtain ⟨m, hm⟩ := k0; exact DataW.trod_lt m _ _ _ hm
  have k1 := h1
  have lt1 : ∀ x ∈ p1, x.block < W.heap.size := by obtain ⟨m, hm⟩ := k1; exact DataW.trod_lt m _ _ _ hm
  have k2 := h2
  have lt2 : ∀ x ∈ p2, x.block < W.heap.size := by obtain ⟨m, hm⟩ := k2; exact DataW.trod_lt m _ _ _ hm
  obtain ⟨x0, u0, ρ1, A1, sr0, gr1, vr0⟩ := YtpcaoohacgkeiaaAM.open_arg Try.underlying24 (by kernel_rfl) (by decide) (z := 3) YtpcaoohacgkeiaaAM.bkt_keeps (YtpcaoohacgkeiaaAM.opens_bkt Try.underlying36 (by kernel_rfl) (by kernel_rfl) rfl) (hval 0 24 v0 rfl rfl) h0 (fun w hw => of_decide_eq_true (List.all_eq_true.1 hsz _ (DataW.weights_mem_each (j := 0) rfl rfl w hw))) (YtpcaoohacgkeiaaAM.in_empty W)
  have sz0 := sr0.2
  have sr0 := sr0.1
  have in1 := gr1.inr
  have ex1 := gr1.ext
  have ll0 : x0.length ≤ 5000000000000 := by have h1 := Nat.mul_le_mul_left x0.length (show 32 ≤ Try.prog.bytesOf 36 by decide +kernel); have h3 : reachBytes = 0x7ffffffff000 := rfl; omega
  obtain ⟨cs1, rfl, hl1, hf1⟩ := YtpcaoohacgkeiaaAM.open_agg Try.underlying36 (by kernel_rfl) (by kernel_rfl) (hval 1 36 v1 rfl rfl) h1
  obtain ⟨c1_0, c1_1, c1_2, rfl⟩ := YtpcaoohacgkeiaaAM.list3 (hl1.trans (by kernel_rfl))
  obtain ⟨g1_0, rfl, w1_0⟩ := YtpcaoohacgkeiaaAM.one_str' Try.underlying9 (hf1 0 _ _ rfl rfl)
  obtain ⟨g1_1, rfl, w1_1⟩ := YtpcaoohacgkeiaaAM.one_int' Try.underlying22 (hf1 1 _ _ rfl rfl)
  have b1_1 := YtpcaoohacgkeiaaAM.bd_u32 w1_1
  obtain ⟨g1_2, rfl, w1_2⟩ := YtpcaoohacgkeiaaAM.one_int' Try.underlying3 (hf1 2 _ _ rfl rfl)
  have b1_2 := YtpcaoohacgkeiaaAM.bd_i64 w1_2
  obtain ⟨cs2, rfl, hl2, hf2⟩ := YtpcaoohacgkeiaaAM.open_agg Try.underlying36 (by kernel_rfl) (by kernel_rfl) (hval 2 36 v2 rfl rfl) h2
  obtain ⟨c2_0, c2_1, c2_2, rfl⟩ := YtpcaoohacgkeiaaAM.list3 (hl2.trans (by kernel_rfl))
  obtain ⟨g2_0, rfl, w2_0⟩ := YtpcaoohacgkeiaaAM.one_str' Try.underlying9 (hf2 0 _ _ rfl rfl)
  obtain ⟨g2_1, rfl, w2_1⟩ := YtpcaoohacgkeiaaAM.one_int' Try.underlying22 (hf2 1 _ _ rfl rfl)
  have b2_1 := YtpcaoohacgkeiaaAM.bd_u32 w2_1
  obtain ⟨g2_2, rfl, w2_2⟩ := YtpcaoohacgkeiaaAM.one_int' Try.underlying3 (hf2 2 _ _ rfl rfl)
  have b2_2 := YtpcaoohacgkeiaaAM.bd_i64 w2_2
  have o0 := sr0
  clear hA0 hval0 hsz0 hsz
  have hcall := YtpcaoohacgkeiaaAM.law_calls_in mixed plain YtpcaoohacgkeiaaAM.given_ok Try.func7 (by kernel_rfl) in1 (args := [u0, .agg #[.string (YtpcaoohacgkeiaaAM.mkStr (YtpcaoohacgkeiaaAM.strOf g1_0)), .int .u32 g1_1, .int .i64 g1_2], .agg #[.string (YtpcaoohacgkeiaaAM.mkStr (YtpcaoohacgkeiaaAM.strOf g2_0)), .int .u32 g2_1, .int .i64 g2_2]]) (args' := [v0, .agg #[.string (YtpcaoohacgkeiaaAM.mkStr (YtpcaoohacgkeiaaAM.strOf g1_0)), .int .u32 g1_1, .int .i64 g1_2], .agg #[.string (YtpcaoohacgkeiaaAM.mkStr (YtpcaoohacgkeiaaAM.strOf g2_0)), .int .u32 g2_1, .int .i64 g2_2]]) (.cons vr0 (.cons (YtpcaoohacgkeiaaAM.flat_self rfl) (.cons (YtpcaoohacgkeiaaAM.flat_self rfl) .nil))) (YtpcaoohacgkeiaaAM.law7r _ x0 g1_0 g2_0 g1_1 g1_2 g2_1 g2_2 ll0 _ _ (Nat.le_refl _) o0)
  refine hcall.mono fun e W' ⟨he, bel⟩ => ?_
  subst he
  exact ⟨_, rfl, _, _, _, [], _, [], hW', trodAll_mk1 (shut_bool Try.underlying4 _), (trodAll_cons_mk (Below.trod laidOut (by kernel_rfl) (of_decide_eq_true (by kernel_rfl)) k0 bel lt0) (trodAll_cons_mk (Below.trod laidOut (by kernel_rfl) (of_decide_eq_true (by kernel_rfl)) k1 bel lt1) (trodAll_cons_mk (Below.trod laidOut (by kernel_rfl) (of_decide_eq_true (by kernel_rfl)) k2 bel lt2) trodAll_mk0))), rfl, bel.frame _, fun h => by cases h⟩
theorem over : Rows.catalogSetsRow.holds Try.pinned (OpenSpec.ofChange Rows.catalogSetsSpec) :=
  OpenClaim.holds_of_wide 7 Try.f7 rfl rfl rfl rfl rfl rfl rfl ⟨rfl, rfl, rfl, rfl, rfl⟩ rfl rfl rfl rfl rfl (by kernel_rfl) Try.func7 (by kernel_rfl)
    (of_decide_eq_true (by kernel_rfl)) (by unfold Func.isWrapper; first | (rw [if_pos (by decide +kernel)]; kernel_rfl) | (rw [if_neg (by decide +kernel)]; exact ⟨rfl, rfl⟩))
    (fun os started H enc _ => lifted os started H enc)
theorem proved : Rows.CatalogSetsSaid := over

#print axioms proved
end Go.Proofs.Ytpcaoohacgkeiaa.catalogSets
namespace Go.Proofs.Ytpcaoohacgkeiaa
/-- The row, under a short name, for the claim. -/
theorem catalogSets_holds : Rows.CatalogSetsSaid := catalogSets.proved
end Go.Proofs.Ytpcaoohacgkeiaa

