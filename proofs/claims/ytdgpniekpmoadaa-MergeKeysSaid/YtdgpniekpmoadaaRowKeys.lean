/- MergeKeys: a key contains its page, its place and the beginning of its own key, and keys are ordered by page, then by place; for every two orphans. -/
import Derived.Test.YtdgpniekpmoadaaRows
import Derived.Test.YtdgpniekpmoadaaALaw
import Derived.WalkKit
import Derived.ProofKit
import Derived.OpenShut
import Derived.ShutString
import Derived.ChangeOld
import Derived.Below
import Derived.SizedLaws
import Derived.Lib.SmallJoins
namespace Go.Proofs.Ytdgpniekpmoadaa.mergeKeys
open Go.ChangeShapes Go.WideShapes Go.ChangeAt Go.RowKit Go.Joins
open Go.ChangeMaps (open_string shut_string)
set_option linter.unusedVariables false
theorem own : ownKnob Try.prog.godebug = none := by kernel_rfl
theorem laidOut : laidOutB Try.prog = true := by kernel_rfl
set_option maxRecDepth 100000 in
theorem lifted (os : Os) (started : os.Started) (H : Type) (enc : TypeId × Value → H) :
    ReturnsInHanded {} Try.checked os 3 .any (Rows.mergeKeysSpec.pre6 enc Try.prog Try.f3 Rows.mergeKeysRow.domain false) (Rows.mergeKeysSpec.post enc Try.prog Try.f3 false true false false) := by
  refine returnsInHanded_of_change_sized (C := Try.checked) own started (by kernel_rfl) Try.func3
    (ChangeSpec.witness6 (enc := enc) (C := Try.checked) false ⟨#[], #[.agg #[.int .u32 0, .int .i64 0, .string ByteArray.empty, .string ByteArray.empty], .agg #[.int .u32 0, .int .i64 0, .string ByteArray.empty, .string ByteArray.empty]], []⟩ 8 (by kernel_rfl) (by kernel_rfl) (by kernel_rfl) (by kernel_rfl)) ?_
  intro W base args ds gs before hval0 hW hcnd hsz0 _
  have hsz : (DataW.weightsEach Try.prog (Try.f3.params.toList ++ Rows.mergeKeysSpec.plain.varTypes Try.prog) (ds ++ gs)).all (· ≤ reachBytes) = true := hsz0
  have hval : ∀ (j : Nat) t v, Try.f3.params[j]? = some t → args[j]? = some v → Value.okWide Try.prog W .any base t v := hval0
  have hW' := hW
  obtain ⟨p, q, hA0, hV, rfl, hfz, hnd⟩ := hW
  have hA : DataW.TrodAll enc Try.prog W 0 (fun _ => true) true Try.f3.params.toList args.toList ds p := hA0
  rw [Try.params3] at hA hval hsz
  obtain ⟨v0, vs0, d0, ds0, p0, q0, hargs, rfl, rfl, h0, r0⟩ := trodAll_cons hA
  obtain ⟨v1, vs1, d1, ds1, p1, q1, rfl, rfl, rfl, h1, r1⟩ := trodAll_cons r0
  obtain ⟨rfl, rfl, rfl⟩ := trodAll_nil r1
  obtain rfl : args = #[v0, v1] := by cases args; simp_all
  obtain ⟨rfl, rfl⟩ := trodVars_none hV
  have k0 := h0
  have lt0 : ∀ x ∈ p0, x.block < W.heap.size := by obtain ⟨m, hm⟩ := k0; exact DataW.trod_lt m _ _ _ hm
  have k1 := h1
  have lt1 : ∀ x ∈ p1, x.block < W.heap.size := by obtain ⟨m, hm⟩ := k1; exact DataW.trod_lt m _ _ _ hm
  obtain ⟨c0, c1, c2, c3, y0, y1, y2, y3, m, rfl, _, _, t0, t1, t2, t3⟩ := open_agg4 Try.underlying24 (by kernel_rfl) (by kernel_rfl) (hval 0 24 v0 rfl rfl) h0
  obtain ⟨pg, e0, rfl, wpg⟩ := DataW.trod_int Try.underlying22 t0
  obtain ⟨sl, e1, rfl, wsl⟩ := DataW.trod_int Try.underlying3 t1
  obtain ⟨key, e2, rfl, wk⟩ := DataW.trod_string Try.underlying9 t2
  obtain ⟨val, e3, rfl, wv⟩ := DataW.trod_string Try.underlying9 t3
  simp at e0 e1 e2 e3
  subst e0 e1 e2 e3
  obtain ⟨c0, c1, c2, c3, y0', y1', y2', y3', m', rfl, _, _, t0', t1', t2', t3'⟩ := open_agg4 Try.underlying24 (by kernel_rfl) (by kernel_rfl) (hval 1 24 v1 rfl rfl) h1
  obtain ⟨pg', e0, rfl, wpg'⟩ := DataW.trod_int Try.underlying22 t0'
  obtain ⟨sl', e1, rfl, wsl'⟩ := DataW.trod_int Try.underlying3 t1'
  obtain ⟨key', e2, rfl, wk'⟩ := DataW.trod_string Try.underlying9 t2'
  obtain ⟨val', e3, rfl, wv'⟩ := DataW.trod_string Try.underlying9 t3'
  simp at e0 e1 e2 e3
  subst e0 e1 e2 e3
  unfold maxLen at wk wk'
  have b0 := A.bd_u32 wpg
  have b1 := A.bd_u32 wpg'
  clear hA0 hval0 hsz0 hsz
  refine (A.law_calls pg sl key val pg' sl' key' val' W b0.1 b0.2 b1.1 b1.2 (by omega) (by omega)).mono fun e W' ⟨he, bel⟩ => ?_
  subst he
  exact ⟨_, rfl, _, _, _, [], _, [], hW', trodAll_mk1 (shut_bool Try.underlying4 _), (trodAll_cons_mk (Below.trod laidOut (by kernel_rfl) (of_decide_eq_true (by kernel_rfl)) k0 bel lt0) (trodAll_cons_mk (Below.trod laidOut (by kernel_rfl) (of_decide_eq_true (by kernel_rfl)) k1 bel lt1) trodAll_mk0)), rfl, bel.frame _, fun h => by cases h⟩
theorem over : Rows.mergeKeysRow.holds Try.pinned (OpenSpec.ofChange Rows.mergeKeysSpec) :=
  OpenClaim.holds_of_wide 3 Try.f3 rfl rfl rfl rfl rfl rfl rfl ⟨rfl, rfl, rfl, rfl, rfl⟩ rfl rfl rfl rfl rfl (by kernel_rfl) Try.func3 (by kernel_rfl)
    (of_decide_eq_true (by kernel_rfl)) (by unfold Func.isWrapper; first | (rw [if_pos (by decide +kernel)]; kernel_rfl) | (rw [if_neg (by decide +kernel)]; exact ⟨rfl, rfl⟩))
    (fun os started H enc _ => lifted os started H enc)
theorem proved : Rows.MergeKeysSaid := over
#print axioms proved
end Go.Proofs.Ytdgpniekpmoadaa.mergeKeys
namespace Go.Proofs.Ytdgpniekpmoadaa
/-- The row, under a short name, for the claim. -/
theorem mergeKeys_holds : Rows.MergeKeysSaid := mergeKeys.proved
end Go.Proofs.Ytdgpniekpmoadaa

