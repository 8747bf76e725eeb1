/- DeviceNames: the chapter's examples have the results that it gives: the evaluator's answer, reckoned by the kernel. -/
import Derived.Test.YtgdmgolmeeigdaaAM23
import Derived.Test.YtgdmgolmeeigdaaProg
import Derived.KernelRfl
namespace Go.Proofs.Ytgdmgolmeeigdaa.RunDeviceNames
open Go Go.Proofs Go.RowKit Go.Proofs.YtgdmgolmeeigdaaAM
theorem told : tells (callA Try.prog none_ 100000 8 #[] empty) true = true := by kernel_rfl
theorem mixed : Try.prog.follows .mixedOrders = true := by kernel_rfl
theorem plain : plainNames Try.prog = true := by kernel_rfl
theorem run (w : World) : Calls Try.prog 8 #[] w fun e w' => e = .returned (.bool true) ∧ Below w.heap.size w w' :=
  closed_bool mixed plain Try.func8 (by kernel_rfl) told w
end Go.Proofs.Ytgdmgolmeeigdaa.RunDeviceNames
