/- Chapter 14: AllocCopies, as its arguments come. -/
import Derived.Test.YtlbmjpmonaekgaaW1
namespace Go.Proofs.YtlbmjpmonaekgaaAM
open Go Go.RowKit
set_option linter.unusedVariables false
set_option linter.unusedSimpArgs false
set_option maxRecDepth 10000
set_option maxHeartbeats 4000000

abbrev NR : Rep0 Int := FlatR (fun x : Int => [.int .i64 x]) fun x => (Lit.int .i64 x).wf = true
abbrev BR : Rep0 Bool := FlatR (fun x : Bool => [.bool x]) fun _ => True
theorem n_keeps : KeepsR NR := flat_keeps
theorem b_keeps : KeepsR BR := flat_keeps
section
variable {H : Type} {enc0 : TypeId × Value → H} {W : World} {held : Bool}
theorem opens_n : Opens enc0 Try.prog W held 2 NR := opens_int und2
theorem opens_b : Opens enc0 Try.prog W held 4 BR :=
  opens_flat (fun _ => rfl) fun cs ⟨n, y, h, _⟩ => by obtain ⟨x, hx, _⟩ := DataW.trod_bool und4 h; exact ⟨x, hx, trivial⟩
end
theorem flat_row {α : Type} {ev : α → Value} {Good : α → Prop} {h : List (Nat × Blk)} {n : Nat} {v : Value} {xs : List α} (hr : SliceR (FlatR (fun x => [ev x]) Good) 1 xs h n [v]) : RowG ev h n v xs := by
  obtain ⟨hl, -⟩ := SliceR.listV hr
  rcases hl with ⟨rfl, rfl⟩ | ⟨b, sp, cap, rw_, rfl, hb, hn⟩
  · exact ⟨none, 0, rfl, fun h => absurd rfl h⟩
  · refine ⟨_, _, rfl, fun _ => ⟨b, 0, sp, rw_, _, hn, rfl, hb, fun i hi => ?_⟩⟩
    have e : ∀ l : List α, l.flatMap (fun x => [ev x]) = l.map ev := by
      intro l
      induction l with
      | nil => rfl
      | cons x r ih => rw [List.flatMap_cons, ih]; rfl
    rw [e, Nat.zero_add, List.getElem?_map, List.getElem?_eq_getElem hi]
    rfl
theorem law8r (v0 v1 v2 : Value) (bs : List Bool) (xs ys : List Int) (a : AW) (m0 m1 m2 : Nat) (hm0 : m0 ≤ a.next) (h0 : SliceR BR 1 bs a.heap m0 [v0]) (hm1 : m1 ≤ a.next) (h1 : SliceR NR 1 xs a.heap m1 [v1]) (hm2 : m2 ≤ a.next) (h2 : SliceR NR 1 ys a.heap m2 [v2]) :
    WCall Try.prog GE 8 [v0, v1, v2] a fun r _ => r = .bool true :=
  law8 v0 v1 v2 bs xs ys a ((flat_row h0).keep hm0 fun _ _ => rfl) ((flat_row h1).keep hm1 fun _ _ => rfl) ((flat_row h2).keep hm2 fun _ _ => rfl)
end Go.Proofs.YtlbmjpmonaekgaaAM
