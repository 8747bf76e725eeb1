/- lives: the chapter's examples have the results that it gives: the evaluator's answer, reckoned by the kernel call by call. -/
import Derived.Test.YtpcaoohacgkeiaaAME
import Derived.Test.YtpcaoohacgkeiaaProg
import Derived.KernelRfl
namespace Go.Proofs.Ytpcaoohacgkeiaa.Runlives
open Go Go.Proofs Go.RowKit Go.Proofs.YtpcaoohacgkeiaaAM
theorem mixed : Try.prog.follows .mixedOrders = true := by kernel_rfl
theorem plain : plainNames Try.prog = true := by kernel_rfl
def R (n : Nat) (b : UInt8) : List UInt8 := List.replicate n b
def S (l : List UInt8) : Value := .string (mkStr l)
def lno : List Fact := []
theorem hno : AllF Try.prog lno := no_facts
def k0 : Blk := .cells [(S ([97])), (.int .u32 (5)), (.int .i64 (3)), (S ([99])), (.int .u32 (0)), (.int .i64 (0))] true
def k1 : Blk := .cells [(S ([99])), (.int .u32 (0)), (.int .i64 (0))] true
def k2 : Blk := .cells [(S ([97])), (.int .u32 (5)), (.int .i64 (3))] true
def k3 : Blk := .cells [(.int .i64 (2)), (.int .i64 (2)), (.int .u32 (7)), (.int .u32 (0)), (.int .u64 (5)), (S ([1, 97, 5, 0, 0, 0, 3, 0, 0, 0, 1, 99] ++ R 92 0))] true
/- careenage catalog.Page: 882 operations. -/
def l0 : List Fact := ⟨10, [(.int .i64 (128)), (.int .u32 (7)), (.int .u64 (5)), (.slice (some ⟨0, 0, (some 0)⟩) 2 2)], ⟨1, [(0, k0)], 0, []⟩, (.tuple #[(.agg #[(.int .i64 (2)), (.int .i64 (2)), (.int .u32 (7)), (.int .u32 (0)), (.int .u64 (5)), (S ([1, 97, 5, 0, 0, 0, 3, 0, 0, 0, 1, 99] ++ R 92 0))]), (.int .i64 (0))]), ⟨1, [(0, k0)], 0, []⟩⟩ :: lno
theorem h0 : AllF Try.prog l0 := fact_more mixed plain hno (n := 100000) (by kernel_rfl)
/- careenage catalog.Page: 882 operations. -/
def l1 : List Fact := ⟨10, [(.int .i64 (128)), (.int .u32 (7)), (.int .u64 (5)), (.slice (some ⟨7, 0, (some 4)⟩) 2 2)], ⟨8, [(7, k0), (6, k1), (4, k2), (3, .cells [(S (R 84 0))] true), (2, k3), (1, k3), (0, k0)], 2, []⟩, (.tuple #[(.agg #[(.int .i64 (2)), (.int .i64 (2)), (.int .u32 (7)), (.int .u32 (0)), (.int .u64 (5)), (S ([1, 97, 5, 0, 0, 0, 3, 0, 0, 0, 1, 99] ++ R 92 0))]), (.int .i64 (0))]), ⟨8, [(7, k0), (6, k1), (4, k2), (3, .cells [(S (R 84 0))] true), (2, k3), (1, k3), (0, k0)], 2, []⟩⟩ :: l0
theorem h1 : AllF Try.prog l1 := fact_more mixed plain h0 (n := 100000) (by kernel_rfl)
/- careenage catalog.Of: 834 operations. -/
def l2 : List Fact := ⟨11, [(.agg #[(.int .i64 (2)), (.int .i64 (2)), (.int .u32 (7)), (.int .u32 (0)), (.int .u64 (5)), (S ([1, 97, 5, 0, 0, 0, 3, 0, 0, 0, 1, 99] ++ R 92 0))])], ⟨2, [(1, k3), (0, k0)], 0, []⟩, (.tuple #[(.slice (some ⟨2, 0, (some 4)⟩) 2 2), (.int .i64 (0))]), ⟨3, [(2, k0), (1, k3), (0, k0)], 0, []⟩⟩ :: l1
theorem h2 : AllF Try.prog l2 := fact_more mixed plain h1 (n := 100000) (by kernel_rfl)
theorem told : tells (callA Try.prog (facts l2) 100000 8 #[] empty) true = true := by kernel_rfl
theorem run (w : World) : Calls Try.prog 8 #[] w fun e w' => e = .returned (.bool true) ∧ Below w.heap.size w w' :=
  closed_facts mixed plain h2 Try.func8 (by kernel_rfl) told w
end Go.Proofs.Ytpcaoohacgkeiaa.Runlives
