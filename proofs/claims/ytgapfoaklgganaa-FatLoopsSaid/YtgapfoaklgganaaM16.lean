import Derived.Test.YtgapfoaklgganaaRows
import Derived.Test.YtgapfoaklgganaaN16
/-! The self-check of layer 16, run by the kernel. -/
namespace Go.Proofs.Ytgapfoaklgganaa.L16
open Go Go.AM Go.RowKit Go.Proofs.Ytgapfoaklgganaa.AMC
theorem made_runs : ansB (callF true (fun f => tab.get f) 100000 100 21 [] AHeap.empty) = some true := quick (by kernel_rfl)
theorem made_calls (w : World) : Calls Try.prog 21 #[] w fun e w' => e = .returned (.bool true) ∧ Below w.heap.size w w' := closed_tr follows tabOk made_runs w
theorem tabF_ok : TabSound Try.prog tabF := tab_prim tabOk ok21.1 (primTrue_runs made_calls)
end Go.Proofs.Ytgapfoaklgganaa.L16
