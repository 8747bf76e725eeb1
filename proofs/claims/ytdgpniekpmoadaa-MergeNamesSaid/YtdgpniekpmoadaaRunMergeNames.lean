/- MergeNames: the chapter's examples have the results that it gives: the evaluator's answer, reckoned by the kernel call by call. -/
import Derived.Test.YtdgpniekpmoadaaAME
import Derived.Test.YtdgpniekpmoadaaM0
import Derived.Test.YtdgpniekpmoadaaProg
import Derived.KernelRfl
namespace Go.Proofs.Ytdgpniekpmoadaa.RunMergeNames
open Go Go.Proofs Go.RowKit Go.Proofs.YtdgpniekpmoadaaAM
theorem mixed : Try.prog.follows .mixedOrders = true := by kernel_rfl
theorem plain : plainNames Try.prog = true := by kernel_rfl
def R (n : Nat) (b : UInt8) : List UInt8 := List.replicate n b
def S (l : List UInt8) : Value := .string (mkStr l)
def lno : List Fact := []
theorem hno : AllF Try.prog lno := no_facts
def k0 : Blk := .cells [(.int .u32 (2)), (.int .i64 (0)), (S ([107])), (S ([110, 101, 119])), (.int .u32 (1)), (.int .i64 (0)), (S []), (S ([120])), (.int .u32 (1)), (.int .i64 (0)), (S []), (S ([121]))] true
def k1 : Blk := .cells [(S ([0, 0, 0, 2, 0, 0, 107])), (S ([111, 108, 100])), (S ([97])), (S ([49]))] true
def k2 : Blk := .cells [(.int .u32 (2)), (.int .i64 (0)), (S ([107])), (S ([110, 101, 119]))] true
def k3 : Blk := .cells [(S ([0, 0, 0, 1, 0, 0])), (S ([120])), (S ([0, 0, 0, 2, 0, 0, 107])), (S ([111, 108, 100])), (S ([97])), (S ([49]))] true
/- careenage merge.Merge: 492 operations. -/
def l0 : List Fact := ⟨13, [(.slice (some ⟨1, 0, (some 0)⟩) 2 2), (.slice (some ⟨2, 0, (some 0)⟩) 3 3)], ⟨3, [(2, k0), (1, k1), (0, k2)], 0, []⟩, (.tuple #[(.slice (some ⟨3, 0, (some 3)⟩) 3 3), (.int .i64 (1))]), ⟨4, [(3, k3), (2, k0), (1, k1), (0, k2)], 0, []⟩⟩ :: lno
theorem h0 : AllF Try.prog l0 := fact_moreOn mixed plain given_ok hno (n := 100000) (by kernel_rfl)
theorem told : tells (callA Try.prog (factsOn GV l0) 100000 6 #[] empty) true = true := by kernel_rfl
theorem run (w : World) : Calls Try.prog 6 #[] w fun e w' => e = .returned (.bool true) ∧ Below w.heap.size w w' :=
  closed_factsOn mixed plain given_ok h0 Try.func6 (by kernel_rfl) (by kernel_rfl) rfl told w
end Go.Proofs.Ytdgpniekpmoadaa.RunMergeNames
