/- Chapter 22: GradeText as its row asks it. -/
import Derived.Test.YtnjhndfomjjkdaaDoorH5
namespace Go.Proofs.YtnjhndfomjjkdaaDoorAM
open Go Go.RowKit
theorem law3r (u v : Nat) (x : Int) (hu : u < 18446744073709551616) (hv : v < 18446744073709551616) (hx : -9223372036854775808 ≤ x ∧ x ≤ 9223372036854775807) (a : AW) :
    WCall Tryd.prog GW 3 [.float .f64 u, .float .f64 v, .int .i64 x] a fun r _ => r = .bool true := by
  rw [law3 u v x hu hv hx a]
end Go.Proofs.YtnjhndfomjjkdaaDoorAM
