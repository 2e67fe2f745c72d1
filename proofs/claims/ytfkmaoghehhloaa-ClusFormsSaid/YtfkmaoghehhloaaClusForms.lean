/- The function of the law ClusForms says true: by the evaluator, in the kernel. -/
import Derived.Test.YtfkmaoghehhloaaAe17
import Derived.Test.YtfkmaoghehhloaaProg
namespace Go.Proofs.Ytfkmaoghehhloaa.Walk
open Go.Ae Go.RowKit
theorem mix : Try.prog.follows .mixedOrders = true := by kernel_rfl
theorem clusFormsTrue : saysTrue (evCall Try.prog 1000 5 [] H0) = true := by kernel_rfl
theorem clusForms (w : World) : Calls Try.prog 5 #[] w (fun e w' => e = .returned (.bool true) ∧ Below w.heap.size w w') := calls_true mix clusFormsTrue w
end Go.Proofs.Ytfkmaoghehhloaa.Walk
