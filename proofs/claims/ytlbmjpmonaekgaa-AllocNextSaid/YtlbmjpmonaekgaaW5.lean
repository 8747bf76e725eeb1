/- Chapter 14: AllocNext, as its arguments come. -/
import Derived.Test.YtlbmjpmonaekgaaW4
namespace Go.Proofs.YtlbmjpmonaekgaaAM
open Go Go.RowKit
set_option linter.unusedVariables false
theorem law6r (v0 v1 v2 : Value) (bs : List Bool) (xs ys : List Int) (a : AW) (m0 m1 m2 : Nat) (hm0 : m0 ≤ a.next) (h0 : SliceR BR 1 bs a.heap m0 [v0]) (hm1 : m1 ≤ a.next) (h1 : SliceR NR 1 xs a.heap m1 [v1]) (hm2 : m2 ≤ a.next) (h2 : SliceR NR 1 ys a.heap m2 [v2]) :
    WCall Try.prog GE 6 [v0, v1, v2] a fun r _ => r = .bool true :=
  law6 v0 v1 v2 bs xs ys a ((flat_row h0).keep hm0 fun _ _ => rfl) ((flat_row h1).keep hm1 fun _ _ => rfl) ((flat_row h2).keep hm2 fun _ _ => rfl)
end Go.Proofs.YtlbmjpmonaekgaaAM
