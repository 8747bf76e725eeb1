/- CatalogNames: the chapter's examples have the results that it gives: the evaluator's answer, reckoned by the kernel call by call. -/
import Derived.Test.YtpcaoohacgkeiaaAME
import Derived.Test.YtpcaoohacgkeiaaJ0
import Derived.Test.YtpcaoohacgkeiaaProg
import Derived.KernelRfl
namespace Go.Proofs.Ytpcaoohacgkeiaa.RunCatalogNames
open Go Go.Proofs Go.RowKit Go.Proofs.YtpcaoohacgkeiaaAM
theorem mixed : Try.prog.follows .mixedOrders = true := by kernel_rfl
theorem plain : plainNames Try.prog = true := by kernel_rfl
def R (n : Nat) (b : UInt8) : List UInt8 := List.replicate n b
def S (l : List UInt8) : Value := .string (mkStr l)
def lno : List Fact := []
theorem hno : AllF Try.prog lno := no_facts
def k0 : Blk := .cells [(S ([97])), (.int .u32 (5)), (.int .i64 (3)), (S ([99])), (.int .u32 (0)), (.int .i64 (0))] true
def k1 : Blk := .cells [(.int .i64 (0)), (.int .i64 (0)), (.int .u32 (0)), (.int .u32 (0)), (.int .u64 (0)), (S [])] true
def k2 : Blk := .cells [(S ([97] ++ R 15 110)), (.int .u32 (0)), (.int .i64 (0)), (S ([98] ++ R 15 110)), (.int .u32 (0)), (.int .i64 (0)), (S ([99] ++ R 15 110)), (.int .u32 (0)), (.int .i64 (0))] true
def k3 : Blk := .cells [(S ([98])), (.int .u32 (0)), (.int .i64 (0)), (S ([97])), (.int .u32 (0)), (.int .i64 (0))] true
def k4 : Blk := .cells [(S ([97])), (.int .u32 (5)), (.int .i64 (0))] true
def k5 : Blk := .cells [(.int .i64 (2)), (.int .i64 (2)), (.int .u32 (7)), (.int .u32 (0)), (.int .u64 (5)), (S ([1, 97, 5, 0, 0, 0, 3, 0, 0, 0, 1, 99] ++ R 92 0))] true
def k6 : Blk := .cells [(S ([97] ++ R 15 110)), (.int .u32 (0)), (.int .i64 (0)), (S ([98] ++ R 15 110)), (.int .u32 (0)), (.int .i64 (0)), (S ([99] ++ R 15 110)), (.int .u32 (0)), (.int .i64 (0)), (S ([100, 100])), (.int .u32 (0)), (.int .i64 (0))] true
def k7 : Blk := .cells [(S ([100, 100])), (.int .u32 (0)), (.int .i64 (0))] true
def k8 : Blk := .cells [(.int .i64 (2)), (.int .i64 (3)), (.int .u32 (7)), (.int .u32 (0)), (.int .u64 (5)), (S ([16, 97] ++ R 15 110 ++ R 8 0 ++ [16, 98] ++ R 15 110 ++ R 8 0 ++ [16, 99] ++ R 15 110 ++ R 37 0))] true
def k9 : Blk := .cells [(S ([97] ++ R 15 110)), (.int .u32 (0)), (.int .i64 (0)), (S ([98] ++ R 15 110)), (.int .u32 (0)), (.int .i64 (0)), (S ([99] ++ R 15 110)), (.int .u32 (0)), (.int .i64 (0)), (S ([108, 111, 115, 116, 43, 102, 111, 117, 110, 100])), (.int .u32 (0)), (.int .i64 (0))] true
def k10 : Blk := .cells [(S ([108, 111, 115, 116, 43, 102, 111, 117, 110, 100])), (.int .u32 (0)), (.int .i64 (0))] true
def k11 : Blk := .cells [(S ([99])), (.int .u32 (0)), (.int .i64 (0))] true
def k12 : Blk := .cells [(S ([97])), (.int .u32 (5)), (.int .i64 (3))] true
def k13 : Blk := .cells [(.int .i64 (2)), (.int .i64 (2)), (.int .u32 (7)), (.int .u32 (1)), (.int .u64 (5)), (S ([1, 97, 5, 0, 0, 0, 3, 0, 0, 0, 1, 99] ++ R 92 0))] true
def k14 : Blk := .cells [(.int .i64 (2)), (.int .i64 (4)), (.int .u32 (7)), (.int .u32 (0)), (.int .u64 (5)), (S ([16, 97] ++ R 15 110 ++ R 8 0 ++ [16, 98] ++ R 15 110 ++ R 8 0 ++ [16, 99] ++ R 15 110 ++ R 8 0 ++ [10, 108, 111, 115, 116, 43, 102, 111, 117, 110, 100] ++ R 18 0))] true
def k15 : Blk := .cells [(.int .i64 (2)), (.int .i64 (2)), (.int .u32 (7)), (.int .u32 (0)), (.int .u64 (5)), (S ([1, 97, 5, 0, 0, 0, 3, 0, 0, 0, 1, 99] ++ R 91 0 ++ [120]))] true
/- careenage catalog.Page: 882 operations. -/
def l0 : List Fact := ⟨10, [(.int .i64 (128)), (.int .u32 (7)), (.int .u64 (5)), (.slice (some ⟨0, 0, (some 0)⟩) 2 2)], ⟨1, [(0, k0)], 0, []⟩, (.tuple #[(.agg #[(.int .i64 (2)), (.int .i64 (2)), (.int .u32 (7)), (.int .u32 (0)), (.int .u64 (5)), (S ([1, 97, 5, 0, 0, 0, 3, 0, 0, 0, 1, 99] ++ R 92 0))]), (.int .i64 (0))]), ⟨1, [(0, k0)], 0, []⟩⟩ :: lno
theorem h0 : AllF Try.prog l0 := fact_moreOn mixed plain given_ok hno (n := 100000) (by kernel_rfl)
/- careenage catalog.may: 431 operations. -/
def l1 : List Fact := ⟨29, [(.int .i64 (128)), (.slice (some ⟨8, 0, (some 0)⟩) 3 3)], ⟨10, [(9, k1), (8, k2), (7, k1), (6, k3), (5, k1), (4, k4), (3, k1), (2, k0), (1, k5), (0, k0)], 9, []⟩, (.bool true), ⟨10, [(9, k1), (8, k2), (7, k1), (6, k3), (5, k1), (4, k4), (3, k1), (2, k0), (1, k5), (0, k0)], 9, []⟩⟩ :: l0
theorem h1 : AllF Try.prog l1 := fact_moreOn mixed plain given_ok h0 (n := 100000) (by kernel_rfl)
/- careenage catalog.Page: 751 operations. -/
def l2 : List Fact := ⟨10, [(.int .i64 (128)), (.int .u32 (7)), (.int .u64 (5)), (.slice (some ⟨8, 0, (some 0)⟩) 3 3)], ⟨9, [(8, k2), (7, k1), (6, k3), (5, k1), (4, k4), (3, k1), (2, k0), (1, k5), (0, k0)], 0, []⟩, (.tuple #[(.agg #[(.int .i64 (2)), (.int .i64 (3)), (.int .u32 (7)), (.int .u32 (0)), (.int .u64 (5)), (S ([16, 97] ++ R 15 110 ++ R 8 0 ++ [16, 98] ++ R 15 110 ++ R 8 0 ++ [16, 99] ++ R 15 110 ++ R 37 0))]), (.int .i64 (0))]), ⟨9, [(8, k2), (7, k1), (6, k3), (5, k1), (4, k4), (3, k1), (2, k0), (1, k5), (0, k0)], 0, []⟩⟩ :: l1
theorem h2 : AllF Try.prog l2 := fact_moreOn mixed plain given_ok h1 (n := 100000) (by kernel_rfl)
/- careenage catalog.may: 538 operations. -/
def l3 : List Fact := ⟨29, [(.int .i64 (128)), (.slice (some ⟨12, 0, (some 4)⟩) 4 4)], ⟨14, [(13, k1), (12, k6), (11, k7), (9, k8), (8, k2), (7, k1), (6, k3), (5, k1), (4, k4), (3, k1), (2, k0), (1, k5), (0, k0)], 13, []⟩, (.bool false), ⟨14, [(13, k1), (12, k6), (11, k7), (9, k8), (8, k2), (7, k1), (6, k3), (5, k1), (4, k4), (3, k1), (2, k0), (1, k5), (0, k0)], 13, []⟩⟩ :: l2
theorem h3 : AllF Try.prog l3 := fact_moreOn mixed plain given_ok h2 (n := 100000) (by kernel_rfl)
/- careenage catalog.may: 472 operations. -/
def l4 : List Fact := ⟨29, [(.int .i64 (128)), (.slice (some ⟨16, 0, (some 4)⟩) 4 4)], ⟨18, [(17, k1), (16, k9), (15, k10), (13, k1), (12, k6), (11, k7), (9, k8), (8, k2), (7, k1), (6, k3), (5, k1), (4, k4), (3, k1), (2, k0), (1, k5), (0, k0)], 17, []⟩, (.bool true), ⟨18, [(17, k1), (16, k9), (15, k10), (13, k1), (12, k6), (11, k7), (9, k8), (8, k2), (7, k1), (6, k3), (5, k1), (4, k4), (3, k1), (2, k0), (1, k5), (0, k0)], 17, []⟩⟩ :: l3
theorem h4 : AllF Try.prog l4 := fact_moreOn mixed plain given_ok h3 (n := 100000) (by kernel_rfl)
/- careenage catalog.Page: 961 operations. -/
def l5 : List Fact := ⟨10, [(.int .i64 (128)), (.int .u32 (7)), (.int .u64 (5)), (.slice (some ⟨16, 0, (some 4)⟩) 4 4)], ⟨17, [(16, k9), (15, k10), (13, k1), (12, k6), (11, k7), (9, k8), (8, k2), (7, k1), (6, k3), (5, k1), (4, k4), (3, k1), (2, k0), (1, k5), (0, k0)], 0, []⟩, (.tuple #[(.agg #[(.int .i64 (2)), (.int .i64 (4)), (.int .u32 (7)), (.int .u32 (0)), (.int .u64 (5)), (S ([16, 97] ++ R 15 110 ++ R 8 0 ++ [16, 98] ++ R 15 110 ++ R 8 0 ++ [16, 99] ++ R 15 110 ++ R 8 0 ++ [10, 108, 111, 115, 116, 43, 102, 111, 117, 110, 100] ++ R 18 0))]), (.int .i64 (0))]), ⟨17, [(16, k9), (15, k10), (13, k1), (12, k6), (11, k7), (9, k8), (8, k2), (7, k1), (6, k3), (5, k1), (4, k4), (3, k1), (2, k0), (1, k5), (0, k0)], 0, []⟩⟩ :: l4
theorem h5 : AllF Try.prog l5 := fact_moreOn mixed plain given_ok h4 (n := 100000) (by kernel_rfl)
/- careenage catalog.Page: 882 operations. -/
def l6 : List Fact := ⟨10, [(.int .i64 (128)), (.int .u32 (7)), (.int .u64 (5)), (.slice (some ⟨24, 0, (some 4)⟩) 2 2)], ⟨25, [(24, k0), (23, k11), (21, k12), (20, .cells [(S (R 84 0))] true), (19, k13), (18, k13), (17, k14), (16, k9), (15, k10), (13, k1), (12, k6), (11, k7), (9, k8), (8, k2), (7, k1), (6, k3), (5, k1), (4, k4), (3, k1), (2, k0), (1, k5), (0, k0)], 19, []⟩, (.tuple #[(.agg #[(.int .i64 (2)), (.int .i64 (2)), (.int .u32 (7)), (.int .u32 (0)), (.int .u64 (5)), (S ([1, 97, 5, 0, 0, 0, 3, 0, 0, 0, 1, 99] ++ R 92 0))]), (.int .i64 (0))]), ⟨25, [(24, k0), (23, k11), (21, k12), (20, .cells [(S (R 84 0))] true), (19, k13), (18, k13), (17, k14), (16, k9), (15, k10), (13, k1), (12, k6), (11, k7), (9, k8), (8, k2), (7, k1), (6, k3), (5, k1), (4, k4), (3, k1), (2, k0), (1, k5), (0, k0)], 19, []⟩⟩ :: l5
theorem h6 : AllF Try.prog l6 := fact_moreOn mixed plain given_ok h5 (n := 100000) (by kernel_rfl)
/- careenage catalog.Of: 833 operations. -/
def l7 : List Fact := ⟨11, [(.agg #[(.int .i64 (2)), (.int .i64 (2)), (.int .u32 (7)), (.int .u32 (1)), (.int .u64 (5)), (S ([1, 97, 5, 0, 0, 0, 3, 0, 0, 0, 1, 99] ++ R 92 0))])], ⟨19, [(18, k13), (17, k14), (16, k9), (15, k10), (13, k1), (12, k6), (11, k7), (9, k8), (8, k2), (7, k1), (6, k3), (5, k1), (4, k4), (3, k1), (2, k0), (1, k5), (0, k0)], 0, []⟩, (.tuple #[(.slice none 0 0), (.int .i64 (4))]), ⟨19, [(18, k13), (17, k14), (16, k9), (15, k10), (13, k1), (12, k6), (11, k7), (9, k8), (8, k2), (7, k1), (6, k3), (5, k1), (4, k4), (3, k1), (2, k0), (1, k5), (0, k0)], 0, []⟩⟩ :: l6
theorem h7 : AllF Try.prog l7 := fact_moreOn mixed plain given_ok h6 (n := 100000) (by kernel_rfl)
/- careenage catalog.Page: 882 operations. -/
def l8 : List Fact := ⟨10, [(.int .i64 (128)), (.int .u32 (7)), (.int .u64 (5)), (.slice (some ⟨25, 0, (some 4)⟩) 2 2)], ⟨26, [(25, k0), (24, k11), (22, k12), (21, .cells [(S (R 83 0 ++ [120]))] true), (20, k15), (19, k15), (18, k13), (17, k14), (16, k9), (15, k10), (13, k1), (12, k6), (11, k7), (9, k8), (8, k2), (7, k1), (6, k3), (5, k1), (4, k4), (3, k1), (2, k0), (1, k5), (0, k0)], 20, []⟩, (.tuple #[(.agg #[(.int .i64 (2)), (.int .i64 (2)), (.int .u32 (7)), (.int .u32 (0)), (.int .u64 (5)), (S ([1, 97, 5, 0, 0, 0, 3, 0, 0, 0, 1, 99] ++ R 92 0))]), (.int .i64 (0))]), ⟨26, [(25, k0), (24, k11), (22, k12), (21, .cells [(S (R 83 0 ++ [120]))] true), (20, k15), (19, k15), (18, k13), (17, k14), (16, k9), (15, k10), (13, k1), (12, k6), (11, k7), (9, k8), (8, k2), (7, k1), (6, k3), (5, k1), (4, k4), (3, k1), (2, k0), (1, k5), (0, k0)], 20, []⟩⟩ :: l7
theorem h8 : AllF Try.prog l8 := fact_moreOn mixed plain given_ok h7 (n := 100000) (by kernel_rfl)
/- careenage catalog.Of: 833 operations. -/
def l9 : List Fact := ⟨11, [(.agg #[(.int .i64 (2)), (.int .i64 (2)), (.int .u32 (7)), (.int .u32 (0)), (.int .u64 (5)), (S ([1, 97, 5, 0, 0, 0, 3, 0, 0, 0, 1, 99] ++ R 91 0 ++ [120]))])], ⟨20, [(19, k15), (18, k13), (17, k14), (16, k9), (15, k10), (13, k1), (12, k6), (11, k7), (9, k8), (8, k2), (7, k1), (6, k3), (5, k1), (4, k4), (3, k1), (2, k0), (1, k5), (0, k0)], 0, []⟩, (.tuple #[(.slice none 0 0), (.int .i64 (4))]), ⟨20, [(19, k15), (18, k13), (17, k14), (16, k9), (15, k10), (13, k1), (12, k6), (11, k7), (9, k8), (8, k2), (7, k1), (6, k3), (5, k1), (4, k4), (3, k1), (2, k0), (1, k5), (0, k0)], 0, []⟩⟩ :: l8
theorem h9 : AllF Try.prog l9 := fact_moreOn mixed plain given_ok h8 (n := 100000) (by kernel_rfl)
theorem told : tells (callA Try.prog (factsOn GV l9) 100000 4 #[] empty) true = true := by kernel_rfl
theorem run (w : World) : Calls Try.prog 4 #[] w fun e w' => e = .returned (.bool true) ∧ Below w.heap.size w w' :=
  closed_factsOn mixed plain given_ok h9 Try.func4 (by kernel_rfl) (by kernel_rfl) rfl told w
end Go.Proofs.Ytpcaoohacgkeiaa.RunCatalogNames
